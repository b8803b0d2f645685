/- Contracts, several texts in one: XQuoteA, XQuoteB, XQuoteC. -/
import Derived.Test.YtieompfmhnpnaaaGreatXRp
import Derived.Test.YtieompfmhnpnaaaGreatXPlain
import Derived.Lib.Bytealg
import Derived.Laws.IdiomCopy
namespace Go.Proofs.YtieompfmhnpnaaaGreat.H
open Go.RowKit Go.Proofs.YtieompfmhnpnaaaGreatW.PrintWords Go.Proofs.YtieompfmhnpnaaaGreatW.PrintLast Go.Proofs.YtieompfmhnpnaaaGreatW.PrintMore
set_option linter.unusedVariables false
set_option linter.unusedSimpArgs false

/-- The cells of a byteStringReplacer. -/
def fQ (t n : Nat) (v92 v34 : Value) (j : Nat) : Value := if j = 256 then .slice (some ⟨t, 0, none⟩) n 2 else if j = 92 then v92 else if j = 34 then v34 else .slice none 0 0
def RowQ (W : World) (q t n : Nat) (v92 v34 : Value) : Prop := ∀ j, j < 257 → W.cell? ⟨q, j, none⟩ = some (fQ t n v92 v34 j) ∧ W.frozen? ⟨q, j, none⟩ = false
section
variable {W W' : World} {q t n : Nat} {v92 v34 : Value}
theorem RowQ.setAt (h : RowQ W q t n v92 v34) {k : Nat} {v : Value} {n' : Nat} {a b : Value} (hk : k < 257) (hs : fQ t n' a b k = v) (ho : ∀ j, j < 257 → j ≠ k → fQ t n' a b j = fQ t n v92 v34 j) : RowQ (W.setCell ⟨q, k, none⟩ v) q t n' a b := fun j hj => by
  refine ⟨?_, by rw [World.frozen?_setCell]; exact (h j hj).2⟩
  by_cases e : j = k
  · subst e
    rw [hs]
    exact World.cell?_setCell_same _ _ _ (h j hj).1
  · rw [ho j hj e]
    exact (World.cell?_setCell_other _ ⟨q, k, none⟩ ⟨q, j, none⟩ _ (fun e2 => by injection e2 with _ e3; exact e e3.symm)).trans (h j hj).1
theorem RowQ.set256 (h : RowQ W q t n v92 v34) (n' : Nat) : RowQ (W.setCell ⟨q, 256, none⟩ (.slice (some ⟨t, 0, none⟩) n' 2)) q t n' v92 v34 :=
  h.setAt (by decide) rfl (fun j _ hj => by simp [fQ, hj])
theorem RowQ.set92 (h : RowQ W q t n v92 v34) (v : Value) : RowQ (W.setCell ⟨q, 92, none⟩ v) q t n v v34 :=
  h.setAt (by decide) rfl (fun j _ hj => by simp [fQ, hj])
theorem RowQ.set34 (h : RowQ W q t n v92 v34) (v : Value) : RowQ (W.setCell ⟨q, 34, none⟩ v) q t n v92 v :=
  h.setAt (by decide) rfl (fun j _ hj => by simp [fQ, hj])
theorem RowQ.far (h : RowQ W q t n v92 v34) {g : Nat} (hne : g ≠ q) (j : Nat) (v : Value) : RowQ (W.setCell ⟨g, j, none⟩ v) q t n v92 v34 := fun i hi =>
  ⟨(World.cell?_setCell_far W ⟨g, j, none⟩ ⟨q, i, none⟩ v hne).trans (h i hi).1, by rw [World.frozen?_setCell]; exact (h i hi).2⟩
theorem RowQ.grown {g : Nat} (h : RowQ W q t n v92 v34) (hb : W.grownBy W' (some g)) (hne : g ≠ q) : RowQ W' q t n v92 v34 := fun j hj => by
  have hlt : q < W.heap.size := World.block_lt_of_cell? W _ (h j hj).1
  have hbk := hb.block q hlt (fun e => hne (by injection e with e; exact e.symm))
  exact ⟨(World.cell?_of_block (a := ⟨q, j, none⟩) hbk).trans (h j hj).1, (World.frozen?_of_block (a := ⟨q, j, none⟩) hbk).trans (h j hj).2⟩
theorem RowQ.alloc (h : RowQ W q t n v92 v34) (o : Obj) : RowQ (W.alloc o) q t n v92 v34 := fun j hj => by
  have hlt : q < W.heap.size := World.block_lt_of_cell? W _ (h j hj).1
  have hbk := Lib.alloc_old W o q hlt
  exact ⟨(World.cell?_of_block (a := ⟨q, j, none⟩) hbk).trans (h j hj).1, (World.frozen?_of_block (a := ⟨q, j, none⟩) hbk).trans (h j hj).2⟩
theorem RowQ.bytes (h : RowQ W q t n v92 v34) (s : ByteArray) : RowQ (Lib.bytesWorld W 5 s) q t n v92 v34 := fun j hj => by
  have hlt : q < W.heap.size := World.block_lt_of_cell? W _ (h j hj).1
  have hbk := (below_bytes (Below.refl W.heap.size W) (Nat.le_refl _) s).block q hlt
  exact ⟨(World.cell?_of_block (a := ⟨q, j, none⟩) hbk).trans (h j hj).1, (World.frozen?_of_block (a := ⟨q, j, none⟩) hbk).trans (h j hj).2⟩
theorem RowQ.below {B : Nat} (h : RowQ W q t n v92 v34) (hb : Below B W W') (hB : q < B) : RowQ W' q t n v92 v34 := fun j hj =>
  ⟨(hb.cell (p := ⟨q, j, none⟩) hB).trans (h j hj).1, (hb.frozen (p := ⟨q, j, none⟩) hB).trans (h j hj).2⟩
end

/-- n nil slices and a last cell. -/
def repQ (n : Nat) (v : Value) : Array Value := (List.replicate n (Value.slice none 0 0) ++ [v]).toArray
theorem repQ_size (n : Nat) (v : Value) : (repQ n v).size = n + 1 := by simp [repQ]
theorem repQ_all (n : Nat) (v : Value) (hv : v.oneCell' = true) : (repQ n v).all (·.oneCell') = true := by
  rw [Array.all_eq_true']
  intro x hx
  simp [repQ] at hx
  rcases hx with ⟨_, rfl⟩ | rfl
  · rfl
  · exact hv
theorem repQ_set (n : Nat) (v : Value) : (List.replicate (n + 1) (Value.slice none 0 0)).set n v = (repQ n v).toList := by
  have : (List.replicate (n + 1) (Value.slice none 0 0)) = List.replicate n (Value.slice none 0 0) ++ [Value.slice none 0 0] := List.replicate_succ'
  rw [this, List.set_append_right _ _ (by simp)]
  simp [repQ]
theorem repQ_at (n : Nat) (v : Value) (j : Nat) (hj : j < n + 1) : (repQ n v)[j]? = some (if j = n then v else .slice none 0 0) := by
  unfold repQ
  by_cases e : j = n
  · subst e; simp
  · rw [if_neg e]
    have : j < n := by omega
    simp [List.getElem?_append, this]
theorem conv_one (W : World) (c : Nat) (hc : c < 256) : (convert 45 9 (.slice (some ⟨W.heap.size, 0, none⟩) 1 1)).run Tryz.prog (W.alloc (.cells #[.int .u8 (c : Int)] 5)) = .ok (.string ⟨#[UInt8.ofNat c]⟩) (W.alloc (.cells #[.int .u8 (c : Int)] 5)) := by
  have := run_convert_bytes_arg (P := Tryz.prog) (W.alloc (.cells #[.int .u8 (c : Int)] 5)) 45 5 Tryz.underlying45 Tryz.underlying5 W.heap.size 0 1 1 [(c : Int)] rfl (fun i hi => by
    obtain rfl : i = 0 := by simp at hi; omega
    rw [World.cell?_alloc_new]
    rfl) 9 Tryz.underlying9
  refine this.trans ?_
  have e : strOfNums [(c : Int)] = ⟨#[UInt8.ofNat c]⟩ := by
    unfold strOfNums
    simp
  rw [e]
theorem zeroCells132_eq : Tryz.zeroCells132.toList = List.replicate (256 + 1) (Value.slice none 0 0) := by kernel_rfl
def rowQ0 (t : Nat) : Array Value := repQ 256 (Value.slice (some ⟨t, 0, none⟩) 0 2)
theorem rowQ0_eq (t : Nat) : Tryz.zeroCells132.toList.set 256 (Value.slice (some ⟨t, 0, none⟩) 0 2) = (rowQ0 t).toList := by
  rw [zeroCells132_eq]
  exact repQ_set 256 _
theorem rowQ0_size (t : Nat) : (rowQ0 t).size = 257 := repQ_size 256 _
theorem rowQ0_all (t : Nat) : (rowQ0 t).all (·.oneCell') = true := repQ_all 256 _ rfl
theorem rowQ0_at (W : World) (t : Nat) : RowQ (W.alloc (.cells (rowQ0 t) 132)) W.heap.size t 0 (.slice none 0 0) (.slice none 0 0) := fun j hj => by
  refine ⟨?_, Lib.frozen_of_heap (heap_alloc_new W _) j⟩
  rw [World.cell?_alloc_new]
  unfold rowQ0
  rw [repQ_at 256 _ j hj]
  unfold fQ
  by_cases e : j = 256
  · rw [if_pos e, if_pos e]
  · rw [if_neg e, if_neg e]
    simp

def QS (n0 : Nat) (w : World) (i : Value) (W : World) : Prop :=
  (i = .int .i64 2 ∧ RowQ W (n0 + 1) n0 0 (.slice none 0 0) (.slice none 0 0) ∧ W.ownsRow n0 9 1 (.slice (some ⟨n0, 0, none⟩) 0 2) 0 [] ∧ Below n0 w W) ∨
  (i = .int .i64 0 ∧ ∃ p1 c1, RowQ W (n0 + 1) n0 1 (.slice (some ⟨p1, 0, none⟩) 2 c1) (.slice none 0 0) ∧ W.ownsRow n0 9 1 (.slice (some ⟨n0, 0, none⟩) 1 2) 1 [.string ⟨#[92]⟩] ∧ RowB W p1 2 [92, 92] ∧ n0 + 1 < p1 ∧ Below n0 w W) ∨
  (i = .int .i64 (-2) ∧ ∃ p1 c1 p2 c2, RowQ W (n0 + 1) n0 2 (.slice (some ⟨p1, 0, none⟩) 2 c1) (.slice (some ⟨p2, 0, none⟩) 2 c2) ∧ W.ownsRow n0 9 1 (.slice (some ⟨n0, 0, none⟩) 2 2) 2 [.string ⟨#[92]⟩, .string ⟨#[34]⟩] ∧ RowB W p1 2 [92, 92] ∧ RowB W p2 2 [92, 34] ∧ n0 + 1 < p1 ∧ n0 + 1 < p2 ∧ Below n0 w W)

theorem stage_next {n0 k : Nat} {w wr w2 : World} {o1 o2 : Obj} {xs : List Value} (hq : n0 + 1 < wr.heap.size) (hB1 : Below n0 w wr) (hn : n0 ≤ w.heap.size)
    (hO : w2.ownsRow n0 9 1 (.slice (some ⟨n0, 0, none⟩) k 2) k xs) (hg : ((wr.alloc o1).alloc o2).grownBy w2 (some n0)) (s : ByteArray) (u v : Value) (j : Nat) :
    ((Lib.bytesWorld (w2.setCell ⟨n0 + 1, 256, none⟩ u) 5 s).setCell ⟨n0 + 1, j, none⟩ v).ownsRow n0 9 1 (.slice (some ⟨n0, 0, none⟩) k 2) k xs ∧
    RowB ((Lib.bytesWorld (w2.setCell ⟨n0 + 1, 256, none⟩ u) 5 s).setCell ⟨n0 + 1, j, none⟩ v) w2.heap.size s.size (tabRow s [] 0) ∧ n0 + 1 < w2.heap.size ∧
    Below n0 w ((Lib.bytesWorld (w2.setCell ⟨n0 + 1, 256, none⟩ u) 5 s).setCell ⟨n0 + 1, j, none⟩ v) ∧
    (∀ p m ys, n0 + 1 < p → 0 < m → RowB wr p m ys → RowB ((Lib.bytesWorld (w2.setCell ⟨n0 + 1, 256, none⟩ u) 5 s).setCell ⟨n0 + 1, j, none⟩ v) p m ys) := by
  have hs2 : n0 + 1 < w2.heap.size := by have := hg.size; simp at this; omega
  have hs3 : (w2.setCell ⟨n0 + 1, 256, none⟩ u).heap.size = w2.heap.size := by simp [World.setCell]
  have hbb := below_bytes (Below.refl (w2.setCell ⟨n0 + 1, 256, none⟩ u).heap.size _) (Nat.le_refl _) s
  refine ⟨?_, ?_, hs2, ?_, ?_⟩
  · have h3' : (w2.setCell ⟨n0 + 1, 256, none⟩ u).ownsRow n0 9 1 (.slice (some ⟨n0, 0, none⟩) k 2) k xs := own_setCell hO (by simp [Value.ownBlock]) u
    exact own_setCell (pw_own_below h3' hbb) (by simp [Value.ownBlock]) v
  · have := (row_of_bytes (w2.setCell ⟨n0 + 1, 256, none⟩ u) s []).far (g := n0 + 1) (by rw [hs3]; omega) j v
    rw [hs3] at this
    exact this
  · refine Below.setCell ?_ (p := ⟨n0 + 1, j, none⟩) (by simp) v
    refine below_bytes ?_ (by rw [hs3]; omega) s
    refine Below.setCell ?_ (p := ⟨n0 + 1, 256, none⟩) (by simp) u
    have hs := hB1.size
    exact ((hB1.alloc (by omega) _).alloc (by simp; omega) _).grown hg (by simp; omega) (fun q e => by injection e with e; omega)
  · intro p m ys hp hm hr
    have hlt : p < wr.heap.size := World.block_lt_of_cell? wr ⟨p, 0, none⟩ (hr 0 hm).1
    have r2 : RowB w2 p m ys := fun i hi => by
      have hbk : w2.heap[p]? = wr.heap[p]? := by
        rw [hg.block p (by simp; omega) (fun e => by injection e with e; omega), Lib.alloc_old _ _ _ (by simp; omega), Lib.alloc_old _ _ _ hlt]
      exact ⟨(World.cell?_of_block (a := ⟨p, i, none⟩) hbk).trans (hr i hi).1, (World.frozen?_of_block (a := ⟨p, i, none⟩) hbk).trans (hr i hi).2⟩
    have hlt2 : p < w2.heap.size := World.block_lt_of_cell? w2 ⟨p, 0, none⟩ (r2 0 hm).1
    exact (((r2.far (g := n0 + 1) (by omega) 256 u).below hbb (by rw [hs3]; exact hlt2))).far (by omega) j v

/-- A replacer over a table of strings. -/
def TabQ (W : World) (B q : Nat) : Prop := ∃ t p1 c1 p2 c2, B ≤ q ∧ RowQ W q t 2 (.slice (some ⟨p1, 0, none⟩) 2 c1) (.slice (some ⟨p2, 0, none⟩) 2 c2) ∧ B ≤ t ∧ W.cell? ⟨t, 0, none⟩ = some (.string ⟨#[92]⟩) ∧ W.cell? ⟨t, 1, none⟩ = some (.string ⟨#[34]⟩) ∧ B ≤ p1 ∧ RowB W p1 2 [92, 92] ∧ B ≤ p2 ∧ RowB W p2 2 [92, 34]

set_option maxRecDepth 100000 in
set_option maxHeartbeats 1000000 in
theorem build_strings (B g : Nat) (st : Int) (w : World) (hr : NewRep B w g st ⟨#[34]⟩ ⟨#[92, 34]⟩ ⟨#[92]⟩ ⟨#[92, 92]⟩) :
    Calls Tryz.prog 95 #[.pointer (some ⟨g, 0, none⟩)] w fun e w' => ∃ h, e = .returned (.iface 133 (.pointer (some ⟨h, 0, none⟩))) ∧ TabQ w' w.heap.size h ∧ Below w.heap.size w w' := by
  obtain ⟨hge, -, -, -, -, h, cap, hB, hne, g4, c0, c1, c2, c3⟩ := hr
  have hlt : h < w.heap.size := World.block_lt_of_cell? w ⟨h, 0, none⟩ c0
  go_enter Tryz.func95, Tryz.ntmps95
  go_wp2_with fail
  go_loop [4, 5] (fun a i => ∃ k : Nat, k ≤ 2 ∧ i = .int .i64 (2 * k : Nat) ∧ (0 < k → a = .bool false) ∧ ∃ b, a = .bool b) (fun _ i => (4 - intOf i).toNat)
  case atStart => exact ⟨0, by omega, rfl, fun h => by omega, _, rfl⟩
  case round =>
    obtain ⟨k, hk, rfl, ha, b, rfl⟩ := hrel
    obtain rfl | rfl | rfl : k = 0 ∨ k = 1 ∨ k = 2 := by omega
    · clear ha
      go_wp2_with fail
      go_round
      case rel => exact ⟨1, by omega, rfl, fun _ => rfl, _, rfl⟩
      case measure => simp [intOf]
    · clear ha
      go_wp2_with fail
      go_round
      case rel => exact ⟨2, by omega, rfl, fun _ => rfl, _, rfl⟩
      case measure => simp [intOf]
    · obtain rfl : b = false := by have := ha (by omega); injection this
      clear ha
      have hmk : (Instr.makeSlice 42 (.int .i64 0) (.int .i64 2)).run Tryz.prog w = .ok (.slice (some ⟨w.heap.size, 0, none⟩) 0 2) (w.alloc (.cells #[.string ⟨#[]⟩, .string ⟨#[]⟩] 9)) := by
        obtain ⟨i0, hi, hz0, hz1, hz2⟩ := info_parts info9
        have := run_make (P := Tryz.prog) (w := w) 42 9 i0 (.string ⟨#[]⟩) Tryz.underlying42 hi hz0 .i64 .i64 0 2 (by decide) (by decide) (by rw [hz2]; decide) (by decide)
        rw [hz1] at this
        refine this.trans ?_
        have e : madeCells (Value.string ⟨#[]⟩).cells (Int.toNat 2 * 1) = #[.string ⟨#[]⟩, .string ⟨#[]⟩] := by kernel_rfl
        rw [e]
        rfl
      have hst := run_storeCells_new (P := Tryz.prog) (w.alloc (.cells #[.string ⟨#[]⟩, .string ⟨#[]⟩] 9)) 132 Tryz.zeroCells132 (rowQ0 w.heap.size) (by rw [rowQ0_size]; kernel_rfl) (by rw [rowQ0_size]; kernel_rfl) (rowQ0_all _)
      rw [World.size_alloc, ← rowQ0_eq] at hst
      go_wp2_with fail
      clear hst hmk
      have qT : ∀ (w : World) (a : Option Addr) (n c n' c' : Nat), (binOp .eql 45 (.slice a n c) (.slice none n' c')).run Tryz.prog w = .ok (.bool a.isNone) w := fun w a n c n' c' => Lib.run_eql_slice_nil w _ _ a n c n' c' Tryz.underlying45
      have hrow0 := rowQ0_at (w.alloc (.cells #[.string ⟨#[]⟩, .string ⟨#[]⟩] 9)) w.heap.size
      rw [World.size_alloc] at hrow0
      have hB0 : Below w.heap.size w ((w.alloc (.cells #[.string ⟨#[]⟩, .string ⟨#[]⟩] 9)).alloc (.cells (rowQ0 w.heap.size) 132)) := ((Below.refl _ _).alloc (Nat.le_refl _) _).alloc (by simp) _
      have ht0 : ((w.alloc (.cells #[.string ⟨#[]⟩, .string ⟨#[]⟩] 9)).alloc (.cells (rowQ0 w.heap.size) 132)).ownsRow w.heap.size 9 1 (.slice (some ⟨w.heap.size, 0, none⟩) 0 2) 0 [] :=
        ⟨rfl, .inr ⟨w.heap.size, 2, #[.string ⟨#[]⟩, .string ⟨#[]⟩], rfl, Nat.le_refl _, (Lib.alloc_old _ _ _ (by simp)).trans (heap_alloc_new w _), by decide, by decide, rfl, rfl⟩⟩
      obtain ⟨i0, hi, hz0, hz1, hz2⟩ := info_parts info9
      go_loopw [12] (QS w.heap.size w) (fun i _ => (intOf i + 2).toNat)
      case atStart => exact .inl ⟨rfl, hrow0, ht0, hB0⟩
      case round =>
        clear hrow0 hB0 ht0
        have k0 : ∀ hh : 0 < (⟨#[34]⟩ : ByteArray).size, (⟨#[34]⟩ : ByteArray)[0]'hh = 34 := fun _ => rfl
        have k1 : ∀ hh : 0 < (⟨#[92]⟩ : ByteArray).size, (⟨#[92]⟩ : ByteArray)[0]'hh = 92 := fun _ => rfl
        rcases hrel with ⟨rfl, hrow, ht, hB1⟩ | ⟨rfl, p1, q1, hrow, ht, hr1, hp1, hB1⟩ | ⟨rfl, p1, q1, p2, q2, hrow, ht, hr1, hr2, hp1, hp2, hB1⟩
        · have d0 := pw_cell_below hB1 c0
          have d1 := pw_cell_below hB1 c1
          have d2 := pw_cell_below hB1 c2
          have d3 := pw_cell_below hB1 c3
          have e92 : wr.cell? ⟨w.heap.size + 1, 92, none⟩ = some (.slice none 0 0) := (hrow 92 (by decide)).1
          have e256 : wr.cell? ⟨w.heap.size + 1, 256, none⟩ = some (.slice (some ⟨w.heap.size, 0, none⟩) 0 2) := (hrow 256 (by decide)).1
          have f256 := (hrow 256 (by decide)).2
          have f92 := (hrow 92 (by decide)).2
          have hc1 : (convert 45 9 (.slice (some ⟨wr.heap.size, 0, none⟩) 1 1)).run Tryz.prog (wr.alloc (.cells #[.int .u8 92] 5)) = .ok (.string ⟨#[92]⟩) (wr.alloc (.cells #[.int .u8 92] 5)) := conv_one wr 92 (by decide)
          have hcv : ∀ W : World, (convert 9 45 (.string ⟨#[92, 92]⟩)).run Tryz.prog W = .ok (.slice (some ⟨W.heap.size, 0, none⟩) 2 (grownCap W 2 0 5)) (Lib.bytesWorld W 5 ⟨#[92, 92]⟩) := fun W => Lib.run_convert_string_bytes W 9 45 5 ⟨#[92, 92]⟩ Tryz.underlying9 Tryz.underlying45 Tryz.underlying5
          go_wp2_with (at_builtin; refine wpList_append_fits _ rfl _ _ 42 rfl w.heap.size 9 i0 1 Tryz.underlying42 hi hz1 w.heap.size 0 2 [] rfl ((ht.alloc _).alloc _) ⟨wr.heap.size + 1, 0, none⟩ 1 1 [.string ⟨#[92]⟩] rfl rfl ?c1 ?c2 (by decide) ?_)
          case c1 =>
            intro j u hj
            match j, hj with
            | 0, hj => simp at hj; subst hj; rw [add_plain, show wr.heap.size + 1 = (wr.alloc (.cells #[.int .u8 92] 5)).heap.size by simp]; exact (World.cell?_alloc_new _ _ _ _).trans rfl
          case c2 => intro u hu; simp at hu; subst hu; rfl
          intro w2 hown2 hg2
          have hr2 := ((hrow.alloc _).alloc _).grown hg2 (by omega)
          have e256' : w2.cell? ⟨w.heap.size + 1, 256, none⟩ = some (.slice (some ⟨w.heap.size, 0, none⟩) 0 2) := (hr2 256 (by decide)).1
          have f256' := (hr2 256 (by decide)).2
          have hr3 := (hr2.set256 1).bytes ⟨#[92, 92]⟩
          have e92' := (hr3 92 (by decide)).1
          have f92' := (hr3 92 (by decide)).2
          have HR3 := Aside0.mk hr3
          have HO2 := Aside0.mk hown2
          have HG2 := Aside0.mk hg2
          clear hr2 hr3 hown2 hg2 e256 f256 e92 f92 hc1
          go_wp2_with fail
          obtain ⟨n1, n2, n3, n4, n5⟩ := stage_next (by have := World.block_lt_of_cell? wr _ (hrow 0 (by decide)).1; exact this) hB1 (Nat.le_refl _) HO2.out HG2.out ⟨#[92, 92]⟩ (.slice (some ⟨w.heap.size, 0, none⟩) 1 2) (.slice (some ⟨w2.heap.size, 0, none⟩) 2 (grownCap (w2.setCell ⟨w.heap.size + 1, 256, none⟩ (.slice (some ⟨w.heap.size, 0, none⟩) 1 2)) 2 0 5)) 92
          refine ⟨.inr (.inl ⟨rfl, w2.heap.size, _, HR3.out.set92 _, n1, n2, n3, n4⟩), by simp [intOf]⟩
        · have d0 := pw_cell_below hB1 c0
          have d1 := pw_cell_below hB1 c1
          have d2 := pw_cell_below hB1 c2
          have d3 := pw_cell_below hB1 c3
          have e92 : wr.cell? ⟨w.heap.size + 1, 34, none⟩ = some (.slice none 0 0) := (hrow 34 (by decide)).1
          have e256 : wr.cell? ⟨w.heap.size + 1, 256, none⟩ = some (.slice (some ⟨w.heap.size, 0, none⟩) 1 2) := (hrow 256 (by decide)).1
          have f256 := (hrow 256 (by decide)).2
          have f92 := (hrow 34 (by decide)).2
          have hc1 : (convert 45 9 (.slice (some ⟨wr.heap.size, 0, none⟩) 1 1)).run Tryz.prog (wr.alloc (.cells #[.int .u8 34] 5)) = .ok (.string ⟨#[34]⟩) (wr.alloc (.cells #[.int .u8 34] 5)) := conv_one wr 34 (by decide)
          have hcv : ∀ W : World, (convert 9 45 (.string ⟨#[92, 34]⟩)).run Tryz.prog W = .ok (.slice (some ⟨W.heap.size, 0, none⟩) 2 (grownCap W 2 0 5)) (Lib.bytesWorld W 5 ⟨#[92, 34]⟩) := fun W => Lib.run_convert_string_bytes W 9 45 5 ⟨#[92, 34]⟩ Tryz.underlying9 Tryz.underlying45 Tryz.underlying5
          go_wp2_with (at_builtin; refine wpList_append_fits _ rfl _ _ 42 rfl w.heap.size 9 i0 1 Tryz.underlying42 hi hz1 w.heap.size 1 2 [.string ⟨#[92]⟩] rfl ((ht.alloc _).alloc _) ⟨wr.heap.size + 1, 0, none⟩ 1 1 [.string ⟨#[34]⟩] rfl rfl ?c1 ?c2 (by decide) ?_)
          case c1 =>
            intro j u hj
            match j, hj with
            | 0, hj => simp at hj; subst hj; rw [add_plain, show wr.heap.size + 1 = (wr.alloc (.cells #[.int .u8 34] 5)).heap.size by simp]; exact (World.cell?_alloc_new _ _ _ _).trans rfl
          case c2 => intro u hu; simp at hu; subst hu; rfl
          intro w2 hown2 hg2
          have hr2 := ((hrow.alloc _).alloc _).grown hg2 (by omega)
          have e256' : w2.cell? ⟨w.heap.size + 1, 256, none⟩ = some (.slice (some ⟨w.heap.size, 0, none⟩) 1 2) := (hr2 256 (by decide)).1
          have f256' := (hr2 256 (by decide)).2
          have hr3 := (hr2.set256 2).bytes ⟨#[92, 34]⟩
          have e92' := (hr3 34 (by decide)).1
          have f92' := (hr3 34 (by decide)).2
          have HR3 := Aside0.mk hr3
          have HO2 := Aside0.mk hown2
          have HG2 := Aside0.mk hg2
          clear hr2 hr3 hown2 hg2 e256 f256 e92 f92 hc1
          go_wp2_with fail
          obtain ⟨n1, n2, n3, n4, n5⟩ := stage_next (by have := World.block_lt_of_cell? wr _ (hrow 0 (by decide)).1; exact this) hB1 (Nat.le_refl _) HO2.out HG2.out ⟨#[92, 34]⟩ (.slice (some ⟨w.heap.size, 0, none⟩) 2 2) (.slice (some ⟨w2.heap.size, 0, none⟩) 2 (grownCap (w2.setCell ⟨w.heap.size + 1, 256, none⟩ (.slice (some ⟨w.heap.size, 0, none⟩) 2 2)) 2 0 5)) 34
          refine ⟨.inr (.inr ⟨rfl, p1, q1, w2.heap.size, _, HR3.out.set34 _, n1, n5 p1 2 _ hp1 (by decide) hr1, n2, hp1, n3, n4⟩), by simp [intOf]⟩
        · go_wp2_with fail
          go_ret
          have htl := ht.cellAt 0 (by decide)
          have htl1 := ht.cellAt 1 (by decide)
          exact ⟨w.heap.size + 1, rfl, ⟨w.heap.size, p1, q1, p2, q2, by omega, hrow, Nat.le_refl _, htl, htl1, by omega, hr1, by omega, hr2⟩, hB1⟩
end Go.Proofs.YtieompfmhnpnaaaGreat.H

namespace Go.Proofs.YtieompfmhnpnaaaGreat.H
open Go.RowKit Go.Proofs.YtieompfmhnpnaaaGreatW.PrintWords Go.Proofs.YtieompfmhnpnaaaGreatW.PrintLast Go.Proofs.YtieompfmhnpnaaaGreatW.PrintMore
set_option linter.unusedVariables false
set_option linter.unusedSimpArgs false

/-- A byte between quotation marks. -/
def escL (c : UInt8) : List UInt8 := if c = 34 then [92, 34] else if c = 92 then [92, 92] else [c]
def isEsc (c : UInt8) : Bool := c == 34 || c == 92
def cntE (l : List UInt8) : Nat := (l.filter isEsc).length
def escS (s : ByteArray) : ByteArray := mkB ((bl s).flatMap escL)
theorem escL_length (c : UInt8) : (escL c).length = 1 + (if isEsc c then 1 else 0) := by
  unfold escL isEsc
  by_cases h : c = 34
  · simp [h]
  · by_cases h2 : c = 92
    · simp [h2]
    · simp [h, h2]
theorem cntE_cons (c : UInt8) (l : List UInt8) : cntE (c :: l) = (if isEsc c then 1 else 0) + cntE l := by
  unfold cntE
  by_cases h : isEsc c = true
  · simp [h]; omega
  · simp [h]
theorem escL_flat (l : List UInt8) : (l.flatMap escL).length = l.length + cntE l := by
  induction l with
  | nil => rfl
  | cons c l ih => rw [List.flatMap_cons, List.length_append, ih, escL_length, cntE_cons, List.length_cons]; omega
theorem cntE_append (l m : List UInt8) : cntE (l ++ m) = cntE l + cntE m := by simp [cntE]
theorem cntE_le (l : List UInt8) : cntE l ≤ l.length := List.length_filter_le _ _
theorem cntE_two (l : List UInt8) : cntE l = l.count 92 + l.count 34 := by
  induction l with
  | nil => rfl
  | cons c l ih =>
    rw [cntE_cons, ih, List.count_cons, List.count_cons]
    unfold isEsc
    by_cases h : c = 34
    · subst h; simp; omega
    · by_cases h2 : c = 92
      · subst h2; simp; omega
      · simp [h, h2]
theorem cntE_zero {l : List UInt8} (h : cntE l = 0) : l.flatMap escL = l := by
  induction l with
  | nil => rfl
  | cons c l ih =>
    rw [cntE_cons] at h
    have h1 : isEsc c = false := by
      cases hc : isEsc c with
      | false => rfl
      | true => rw [hc] at h; simp at h
    rw [List.flatMap_cons, ih (by rw [h1] at h; simpa using h)]
    unfold escL isEsc at *
    simp at h1
    simp [h1.1, h1.2]
/-- The first bytes, between quotation marks. -/
def escTo (s : ByteArray) (k : Nat) : List UInt8 := ((bl s).take k).flatMap escL
theorem escTo_succ (s : ByteArray) (k : Nat) (h : k < s.size) : escTo s (k + 1) = escTo s k ++ escL (byteAt s k) := by
  unfold escTo
  rw [take_byteAt s k h, List.flatMap_append]
  simp
theorem escTo_le (s : ByteArray) (k : Nat) : (escTo s k).length ≤ s.size + cntE (bl s) := by
  have h := escL_flat (bl s)
  rw [bl_length] at h
  have e : (bl s).flatMap escL = escTo s k ++ ((bl s).drop k).flatMap escL := by
    unfold escTo
    rw [← List.flatMap_append, List.take_append_drop]
  rw [e, List.length_append] at h
  omega
theorem escTo_all (s : ByteArray) : escTo s s.size = (bl s).flatMap escL := by
  unfold escTo
  rw [← bl_length, List.take_length]
def ints (l : List UInt8) : List Int := l.map fun c => (c.toNat : Int)
theorem ints_length (l : List UInt8) : (ints l).length = l.length := by simp [ints]
theorem ints_append (l m : List UInt8) : ints (l ++ m) = ints l ++ ints m := by simp [ints]
theorem ints_back (l : List UInt8) : strOfNums (ints l) = mkB l := byteInts_back l
/-- The buffer while it is filled. -/
def rowP (N : Nat) (pre : List Int) : List Int := pre ++ List.replicate (N - pre.length) 0
theorem rowP_length (N : Nat) (pre : List Int) (h : pre.length ≤ N) : (rowP N pre).length = N := by simp [rowP]; omega
theorem rowP_set (N : Nat) (pre : List Int) (v : Int) (h : pre.length < N) : (rowP N pre).set pre.length v = rowP N (pre ++ [v]) := by
  unfold rowP
  rw [List.set_append_right _ _ (Nat.le_refl _), Nat.sub_self]
  have e : N - pre.length = (N - (pre ++ [v]).length) + 1 := by simp; omega
  rw [e, List.replicate_succ]
  simp
theorem rowP_full (N : Nat) (pre : List Int) (h : pre.length = N) : rowP N pre = pre := by simp [rowP, h]
theorem rowP_nil (N : Nat) : rowP N [] = List.replicate N 0 := by simp [rowP]

set_option maxHeartbeats 1000000 in
set_option maxRecDepth 100000 in
theorem count_one (s : ByteArray) (c : UInt8) (w : World) :
    Calls Tryz.prog 160 #[.string s, .string ⟨#[c]⟩] w fun e w' => e = .returned (.int .i64 ((bl s).count c : Nat)) ∧ w' = w := by
  have k0 : ∀ hh : 0 < (⟨#[c]⟩ : ByteArray).size, (⟨#[c]⟩ : ByteArray)[0]'hh = c := fun _ => rfl
  have hc := c.toNat_lt
  have e1 : c.toNat.toUInt8 = c := by simp
  go_enter Tryz.func160, Tryz.ntmps160
  go_wp2_with fail
  rw [run_callFunc_extern Tryz.func162 (by kernel_rfl) (by kernel_rfl) (by kernel_rfl) (e := Extern.BytealgCount.count) (by kernel_rfl), Lib.run_countString]
  simp only [Result.andThen]
  rw [Oper.upon_value]
  go_wp2_with fail
  go_ret
  exact ⟨rfl, rfl⟩

theorem madeRow (W : World) (N : Nat) (hN : N ≤ maxLen) : RowB (W.alloc (.cells (madeCells #[.int .u8 0] N) 5)) W.heap.size N (rowP N []) := fun j hj => by
  have h := own_made (W := W) (base := 0) (e := 5) (k := .u8) N (Nat.zero_le _) hN
  have h1 := h.cellAt j (by omega)
  refine ⟨?_, h.frozenAt j⟩
  rw [h1, rowP_nil]
  simp [nums, List.getD, hj]
theorem make_bytes (W : World) (N : Nat) (hN : N ≤ 281474976710656) : (Instr.makeSlice 45 (.int .i64 (N : Int)) (.int .i64 (N : Int))).run Tryz.prog W = .ok (.slice (some ⟨W.heap.size, 0, none⟩) N N) (W.alloc (.cells (madeCells #[.int .u8 0] N) 5)) :=
  print_make 45 5 .u8 1 Tryz.underlying45 info5 (by decide) N (by omega) W

theorem run_neq_nil (w : World) (t e : TypeId) (a : Option Addr) (n c n' c' : Nat) (h : Tryz.prog.underlying t = some (.slice e)) :
    (binOp .neq t (.slice a n c) (.slice none n' c')).run Tryz.prog w = .ok (.bool (!a.isNone)) w := by
  simp only [binOp]
  simp [Op.equal, Op.maxDepth, Lib.run_equalIn_slice_nil w 9999 t e a n c n' c' h]
theorem copy_two (W : World) (g j N cap p c : Nat) (xs : List Int) (a b : Int) (hj : j + 2 ≤ N) (hg : RowB W g N xs) (hp : RowB W p 2 [a, b]) :
    (Builtin.copy_ #[45, 45] 3 #[.slice (some ⟨g, j, none⟩) (N - j) cap, .slice (some ⟨p, 0, none⟩) 2 c]).run Tryz.prog W =
      .ok (.int .i64 2) ((W.setCell ⟨g, j, none⟩ (.int .u8 a)).setCell ⟨g, j + 1, none⟩ (.int .u8 b)) := by
  have := run_copy_cells (P := Tryz.prog) W 45 45 3 5 g j (N - j) cap ⟨p, 0, none⟩ 2 c [.int .u8 a, .int .u8 b] Tryz.underlying45 (by kernel_rfl) (by have e : Nat.min 2 (N - j) = 2 := Nat.min_eq_left (by omega); rw [e]; rfl)
    (fun i v hv => by
      match i, hv with
      | 0, hv => simp at hv; subst hv; exact (hp 0 (by decide)).1
      | 1, hv => simp at hv; subst hv; exact (hp 1 (by decide)).1)
    (fun i hi => by simp at hi; rw [(hg (j + i) (by omega)).1]; rfl) (fun i hi => by simp at hi; exact (hg (j + i) (by omega)).2)
    (fun v hv => by simp at hv; rcases hv with rfl | rfl <;> rfl)
  exact this

set_option maxHeartbeats 1000000 in
set_option maxRecDepth 100000 in
theorem strReplace (B h : Nat) (s : ByteArray) (w : World) (hs : s.size ≤ 1099511627776) (hr : TabQ w B h) :
    Calls Tryz.prog 158 #[.pointer (some ⟨h, 0, none⟩), .string s] w fun e w' => e = .returned (.string (escS s)) ∧ Below w.heap.size w w' := by
  obtain ⟨t, p1, c1, p2, c2, hq, hrow, ht, t0, t1, hp1, hr1, hp2, hr2⟩ := hr
  have hle := cntE_le (bl s)
  rw [bl_length] at hle
  have e256 : w.cell? ⟨h, 256, none⟩ = some (.slice (some ⟨t, 0, none⟩) 2 2) := (hrow 256 (by decide)).1
  have e34 : w.cell? ⟨h, 34, none⟩ = some (.slice (some ⟨p2, 0, none⟩) 2 c2) := (hrow 34 (by decide)).1
  have e92 : w.cell? ⟨h, 92, none⟩ = some (.slice (some ⟨p1, 0, none⟩) 2 c1) := (hrow 92 (by decide)).1
  have qT : ∀ (w : World) (a : Option Addr) (n c n' c' : Nat), (binOp .neq 45 (.slice a n c) (.slice none n' c')).run Tryz.prog w = .ok (.bool (!a.isNone)) w := fun w a n c n' c' => run_neq_nil w 45 5 a n c n' c' Tryz.underlying45
  go_enter Tryz.func158, Tryz.ntmps158
  have hmx : Tryz.prog.follows .mixedOrders = true := by kernel_rfl
  have HLB := Lib.hid (bl_length s)
  have HTWO := Lib.hid (cntE_two (bl s))
  by_cases h16 : 16 ≤ s.size
  · have h16I : (16 : Int) ≤ (s.size : Int) := by omega
    go_wp2_with fail
    have h92' := List.count_le_length (a := (92 : UInt8)) (l := bl s)
    have h34' := List.count_le_length (a := (34 : UInt8)) (l := bl s)
    rw [HLB.out] at h92' h34'
    obtain ⟨n92, h92⟩ : ∃ n, (bl s).count 92 = n := ⟨_, rfl⟩
    obtain ⟨n34, h34⟩ : ∃ n, (bl s).count 34 = n := ⟨_, rfl⟩
    rw [h92] at h92'
    rw [h34] at h34'
    have htwo := HTWO.out
    rw [h92, h34] at htwo
    have HTW := Lib.hid htwo
    have H92 := Lib.hid h92
    have H34 := Lib.hid h34
    clear htwo h92 h34
    go_loopw [5, 6, 32] (fun n a i wr => ∃ (k c m : Nat), k ≤ 2 ∧ c = (if k = 0 then 0 else if k = 1 then n92 else n92 + n34) ∧ n = .int .i64 ((s.size + c : Nat) : Int) ∧ a = .bool (decide (0 < c)) ∧ i = .int .i64 (k : Int) ∧ wr = w.drewN m) (fun _ _ i _ => (2 - intOf i).toNat)
    case atStart => exact ⟨0, 0, 0, by omega, rfl, rfl, rfl, rfl, rfl⟩
    case round =>
      obtain ⟨k, c, m, hk, hc, rfl, rfl, rfl, rfl⟩ := hrel
      obtain rfl | rfl | rfl : k = 0 ∨ k = 1 ∨ k = 2 := by omega
      · obtain rfl : c = 0 := by simpa using hc
        clear hc hk
        simp only [Nat.add_zero]
        have k0 : ∀ hh : 0 < (⟨#[92]⟩ : ByteArray).size, (⟨#[92]⟩ : ByteArray)[0]'hh = 92 := fun _ => rfl
        by_cases z : n92 = 0
        · subst z
          go_wp2_with fail
          refine (count_one s 92 _).mono ?_
          rintro e w1 ⟨rfl, rfl⟩
          rw [H92.out]
          go_wp2_with fail
          go_roundw
          case rel => exact ⟨1, 0, m, by omega, rfl, rfl, rfl, rfl, rfl⟩
          case measure => simp [intOf]
        · have zI : ¬ ((n92 : Int) = 0) := by omega
          have zB : ((n92 : Int) != 0) = true := by simpa using z
          go_wp2_with fail
          refine (count_one s 92 _).mono ?_
          rintro e w1 ⟨rfl, rfl⟩
          rw [H92.out]
          go_wp2_with fail
          go_region
          go_wp2_with fail
          go_roundw
          case rel => exact ⟨1, n92, m + 1, by omega, rfl, by simp, by simp; omega, rfl, rfl⟩
          case measure => simp [intOf]
      · obtain rfl : c = n92 := by simpa using hc
        clear hc hk
        have k0 : ∀ hh : 0 < (⟨#[34]⟩ : ByteArray).size, (⟨#[34]⟩ : ByteArray)[0]'hh = 34 := fun _ => rfl
        by_cases z : n34 = 0
        · subst z
          go_wp2_with fail
          refine (count_one s 34 _).mono ?_
          rintro e w1 ⟨rfl, rfl⟩
          rw [H34.out]
          go_wp2_with fail
          go_roundw
          case rel => exact ⟨2, c, m, by omega, rfl, rfl, rfl, rfl, rfl⟩
          case measure => simp [intOf]
        · have zI : ¬ ((n34 : Int) = 0) := by omega
          have zB : ((n34 : Int) != 0) = true := by simpa using z
          go_wp2_with fail
          refine (count_one s 34 _).mono ?_
          rintro e w1 ⟨rfl, rfl⟩
          rw [H34.out]
          go_wp2_with fail
          go_region
          go_wp2_with fail
          go_roundw
          case rel => exact ⟨2, c + n34, m + 1, by omega, rfl, by simp; omega, by simp; omega, rfl, rfl⟩
          case measure => simp [intOf]
      · obtain rfl : c = n92 + n34 := by simpa using hc
        rw [← HTW.out]
        clear hc hk
        generalize hcn : cntE (bl s) = cnt at *
        by_cases z : cnt = 0
        · subst z
          have HE := Lib.hid (cntE_zero hcn)
          clear hcn
          go_wp2_with fail
          go_ret
          refine ⟨?_, pw_below_drewN (Below.refl _ w) m⟩
          have : escS s = s := by unfold escS; rw [HE.out]
          rw [this]
          rfl
        · have dz : decide (0 < cnt) = true := by simp; omega
          rw [dz]
          obtain ⟨N, hN⟩ : ∃ N, s.size + cnt = N := ⟨_, rfl⟩
          rw [hN]
          have hmk := fun W => make_bytes W N (by omega)
          have hNle : N ≤ 2199023255552 := by omega
          have HCN := Lib.hid hcn
          have HNN := Lib.hid hN
          clear z dz hcn hN
          go_wp2_with fail
          have hrow0 := madeRow (w.drewN m) N (by unfold maxLen; omega)
          have hB0 : Below w.heap.size w ((w.drewN m).alloc (.cells (madeCells #[.int .u8 0] N) 5)) := (pw_below_drewN (Below.refl _ w) m).alloc (Nat.le_refl _) _
          rw [show (w.drewN m).heap.size = w.heap.size from rfl] at hrow0
          go_loopw [13, 14] (fun jv i wr => ∃ k : Nat, k ≤ s.size ∧ i = .int .i64 (k : Int) ∧ jv = .int .i64 ((escTo s k).length : Int) ∧ RowB wr w.heap.size N (rowP N (ints (escTo s k))) ∧ Below w.heap.size w wr) (fun _ i _ => s.size - (intOf i).toNat)
          case atStart => exact ⟨0, Nat.zero_le _, rfl, rfl, hrow0, hB0⟩
          case round =>
            clear hrow0 hB0
            obtain ⟨k, hk, rfl, rfl, hrb, hB1⟩ := hrel
            by_cases hlt : k < s.size
            · have hle1 := escTo_le s (k + 1)
              rw [HCN.out, HNN.out, escTo_succ s k hlt] at hle1
              have HSU := Lib.hid (escTo_succ s k hlt)
              obtain ⟨l, hl⟩ : ∃ l, escTo s k = l := ⟨_, rfl⟩
              rw [hl] at HSU hle1 hrb ⊢
              clear hl
              obtain ⟨j, hj⟩ : ∃ j, l.length = j := ⟨_, rfl⟩
              rw [hj]
              have HJ := Lib.hid hj
              have hjl : (ints l).length = j := by rw [ints_length]; exact hj
              by_cases c34 : byteAt s k = 34
              · have he : escL (byteAt s k) = [92, 34] := by rw [c34]; rfl
                have HE := Lib.hid he
                rw [he, List.length_append, hj] at hle1
                have hj2 : j + 2 ≤ N := by simpa using hle1
                have hj3 : j < N := by omega
                have hk0 : ∀ hh, s[k]'hh = 34 := fun hh => (byteAt_get s k hh).trans c34
                have ec1 := pw_cell_below hB1 e34
                have hplt : p2 < w.heap.size := World.block_lt_of_cell? w ⟨p2, 0, none⟩ (hr2 0 (by decide)).1
                have hcp := copy_two wr w.heap.size j N (N - j) p2 c2 _ 92 34 hj2 hrb (hr2.below hB1 hplt)
                have hcp2 := copy_two wr.drew w.heap.size j N (N - j) p2 c2 _ 92 34 hj2 hrb (hr2.below hB1.drew hplt)
                have hset := hrb.set (rowP_length N _ (by omega)) j hj3 92
                rw [← hjl, rowP_set N _ _ (by omega), hjl] at hset
                have hl1 : (ints l ++ [92]).length = j + 1 := by rw [List.length_append, hjl]; rfl
                have hset2 := hset.set (rowP_length N _ (by omega)) (j + 1) (by omega) 34
                rw [← hl1, rowP_set N _ _ (by omega), hl1] at hset2
                clear hl1
                have HSET := Aside0.mk hset2
                clear he hset hset2 c34 hrb hj hjl hle1
                go_wp2_with fail
                go_region
                go_wp2_with fail
                refine ⟨⟨k + 1, by omega, by go_num, ?_, ?_, ((hB1.setCell (p := ⟨w.heap.size, j, none⟩) (Nat.le_refl _) _).setCell (p := ⟨w.heap.size, j + 1, none⟩) (Nat.le_refl _) _).drew⟩, by simp [intOf]; omega⟩
                · rw [HSU.out, HE.out, List.length_append, HJ.out]; go_num
                · rw [HSU.out, HE.out, ints_append]
                  have e : ints [92, 34] = [92, 34] := rfl
                  have h3 := HSET.out
                  rw [List.append_assoc] at h3
                  exact h3
              · by_cases c92 : byteAt s k = 92
                · have he : escL (byteAt s k) = [92, 92] := by rw [c92]; rfl
                  have HE := Lib.hid he
                  rw [he, List.length_append, hj] at hle1
                  have hj2 : j + 2 ≤ N := by simpa using hle1
                  have hj3 : j < N := by omega
                  have hk0 : ∀ hh, s[k]'hh = 92 := fun hh => (byteAt_get s k hh).trans c92
                  have ec1 := pw_cell_below hB1 e92
                  have hplt : p1 < w.heap.size := World.block_lt_of_cell? w ⟨p1, 0, none⟩ (hr1 0 (by decide)).1
                  have hcp := copy_two wr w.heap.size j N (N - j) p1 c1 _ 92 92 hj2 hrb (hr1.below hB1 hplt)
                  have hcp2 := copy_two wr.drew w.heap.size j N (N - j) p1 c1 _ 92 92 hj2 hrb (hr1.below hB1.drew hplt)
                  have hset := hrb.set (rowP_length N _ (by omega)) j hj3 92
                  rw [← hjl, rowP_set N _ _ (by omega), hjl] at hset
                  have hl1 : (ints l ++ [92]).length = j + 1 := by rw [List.length_append, hjl]; rfl
                  have hset2 := hset.set (rowP_length N _ (by omega)) (j + 1) (by omega) 92
                  rw [← hl1, rowP_set N _ _ (by omega), hl1] at hset2
                  clear hl1
                  have HSET := Aside0.mk hset2
                  clear he hset hset2 c92 hrb hj hjl hle1
                  go_wp2_with fail
                  go_region
                  go_wp2_with fail
                  refine ⟨⟨k + 1, by omega, by go_num, ?_, ?_, ((hB1.setCell (p := ⟨w.heap.size, j, none⟩) (Nat.le_refl _) _).setCell (p := ⟨w.heap.size, j + 1, none⟩) (Nat.le_refl _) _).drew⟩, by simp [intOf]; omega⟩
                  · rw [HSU.out, HE.out, List.length_append, HJ.out]; go_num
                  · rw [HSU.out, HE.out, ints_append]
                    have e : ints [92, 92] = [92, 92] := rfl
                    have h3 := HSET.out
                    rw [List.append_assoc] at h3
                    exact h3
                · have hb256 : (byteAt s k).toNat < 256 := (byteAt s k).toNat_lt
                  have n34 : (byteAt s k).toNat ≠ 34 := fun e => c34 (by rw [← UInt8.toNat_inj]; exact e)
                  have n92 : (byteAt s k).toNat ≠ 92 := fun e => c92 (by rw [← UInt8.toNat_inj]; exact e)
                  have ec := (hrow (byteAt s k).toNat (by omega)).1
                  have ef : fQ t 2 (.slice (some ⟨p1, 0, none⟩) 2 c1) (.slice (some ⟨p2, 0, none⟩) 2 c2) (byteAt s k).toNat = .slice none 0 0 := by
                    unfold fQ
                    rw [if_neg (by omega), if_neg n92, if_neg n34]
                  rw [ef] at ec
                  have ec1 := pw_cell_below hB1 ec
                  have he : escL (byteAt s k) = [byteAt s k] := by unfold escL; rw [if_neg c34, if_neg c92]
                  have HE := Lib.hid he
                  rw [he, List.length_append, hj] at hle1
                  have hj2 : j < N := by simp at hle1; omega
                  have hk0 : ∀ hh, s[k]'hh = byteAt s k := fun hh => byteAt_get s k hh
                  have ej := (hrb j hj2).1
                  have fj := (hrb j hj2).2
                  have hset := hrb.set (rowP_length N _ (by omega)) j hj2 ((byteAt s k).toNat : Int)
                  rw [← hjl, rowP_set N _ _ (by omega), hjl] at hset
                  have HSET := Aside0.mk hset
                  clear ef ec he hset n34 n92 c34 c92 hrb hj hjl hle1 e34 e92 e256
                  go_wp2_with fail
                  refine ⟨⟨k + 1, by omega, by go_num, ?_, ?_, hB1.setCell (p := ⟨w.heap.size, j, none⟩) (Nat.le_refl _) _⟩, by simp [intOf]; omega⟩
                  · rw [HSU.out, HE.out, List.length_append, HJ.out]; go_num
                  · rw [HSU.out, HE.out, ints_append]; exact HSET.out
            · obtain rfl : k = s.size := by omega
              have hf := escTo_le s s.size
              rw [HCN.out, HNN.out] at hf
              have hfl : (ints (escTo s s.size)).length = N := by
                rw [ints_length, escTo_all, escL_flat, HLB.out, HCN.out, HNN.out]
              have hc := run_convert_bytes_arg (P := Tryz.prog) wr 45 5 Tryz.underlying45 Tryz.underlying5 w.heap.size 0 N N _ (rowP_length N (ints (escTo s s.size)) (by omega)) (fun i hi => by rw [Nat.zero_add]; exact (hrb i hi).1) 9 Tryz.underlying9
              rw [rowP_full N _ hfl, ints_back, escTo_all] at hc
              clear hf hfl hrb
              go_wp2_with fail
              go_ret
              exact ⟨rfl, hB1⟩
  · have h16I : ¬ (16 : Int) ≤ (s.size : Int) := by omega
    have h16J : (s.size : Int) < 16 := by omega
    go_wp2_with fail
    go_loopw [5, 6, 10] (fun n a i wr => ∃ (k m : Nat), k ≤ s.size ∧ n = .int .i64 ((s.size + cntE ((bl s).take k) : Nat) : Int) ∧ a = .bool (decide (0 < cntE ((bl s).take k))) ∧ i = .int .i64 (k : Int) ∧ wr = w.drewN m) (fun _ _ i _ => s.size - (intOf i).toNat)
    case atStart => exact ⟨0, 0, by omega, rfl, rfl, rfl, rfl⟩
    case round =>
      obtain ⟨k, m, hk, rfl, rfl, rfl, rfl⟩ := hrel
      by_cases hlt : k < s.size
      · have hsu : cntE ((bl s).take (k + 1)) = cntE ((bl s).take k) + (if isEsc (byteAt s k) then 1 else 0) := by
          rw [take_byteAt s k hlt, cntE_append, cntE_cons]
          rfl
        have hCk := cntE_le ((bl s).take k)
        rw [List.length_take] at hCk
        obtain ⟨C, hC⟩ : ∃ C, cntE ((bl s).take k) = C := ⟨_, rfl⟩
        rw [hC] at hsu hCk ⊢
        have hCk2 : C ≤ k := by omega
        have HC := Lib.hid hC
        clear hC hCk
        by_cases c34 : byteAt s k = 34
        · have hk0 : ∀ hh, s[k]'hh = 34 := fun hh => (byteAt_get s k hh).trans c34
          have HS2 := Lib.hid (hsu.trans (show C + (if isEsc (byteAt s k) then 1 else 0) = C + 1 by rw [c34]; rfl))
          clear hsu c34
          go_wp2_with fail
          go_roundw
          case rel => exact ⟨k + 1, m, by omega, by rw [HS2.out]; go_num, by rw [HS2.out]; simp, by go_num, rfl⟩
          case measure => simp [intOf]; omega
        by_cases c92 : byteAt s k = 92
        · have hk0 : ∀ hh, s[k]'hh = 92 := fun hh => (byteAt_get s k hh).trans c92
          have HS2 := Lib.hid (hsu.trans (show C + (if isEsc (byteAt s k) then 1 else 0) = C + 1 by rw [c92]; rfl))
          clear hsu c92
          go_wp2_with fail
          go_roundw
          case rel => exact ⟨k + 1, m, by omega, by rw [HS2.out]; go_num, by rw [HS2.out]; simp, by go_num, rfl⟩
          case measure => simp [intOf]; omega
        have hb256 : (byteAt s k).toNat < 256 := (byteAt s k).toNat_lt
        have n34 : (byteAt s k).toNat ≠ 34 := fun e => c34 (by rw [← UInt8.toNat_inj]; exact e)
        have n92 : (byteAt s k).toNat ≠ 92 := fun e => c92 (by rw [← UInt8.toNat_inj]; exact e)
        have ec := (hrow (byteAt s k).toNat (by omega)).1
        have ef : fQ t 2 (.slice (some ⟨p1, 0, none⟩) 2 c1) (.slice (some ⟨p2, 0, none⟩) 2 c2) (byteAt s k).toNat = .slice none 0 0 := by
          unfold fQ
          rw [if_neg (by omega), if_neg n92, if_neg n34]
        rw [ef] at ec
        have hk0 : ∀ hh, s[k]'hh = byteAt s k := fun hh => byteAt_get s k hh
        have HS2 := Lib.hid (hsu.trans (show C + (if isEsc (byteAt s k) then 1 else 0) = C by
          have : isEsc (byteAt s k) = false := by unfold isEsc; simp [c34, c92]
          rw [this]; rfl))
        clear hsu c34 c92 n34 n92 ef e34 e92 e256
        go_wp2_with fail
        go_roundw
        case rel => exact ⟨k + 1, m, by omega, by rw [HS2.out], by rw [HS2.out], by go_num, rfl⟩
        case measure => simp [intOf]; omega
      · obtain rfl : k = s.size := by omega
        have htk : (bl s).take s.size = bl s := by rw [← HLB.out, List.take_length]
        rw [htk]
        clear htk
        generalize hcn : cntE (bl s) = cnt at *
        by_cases z : cnt = 0
        · subst z
          have HE := Lib.hid (cntE_zero hcn)
          clear hcn
          go_wp2_with fail
          go_ret
          refine ⟨?_, pw_below_drewN (Below.refl _ w) m⟩
          have : escS s = s := by unfold escS; rw [HE.out]
          rw [this]
          rfl
        · have dz : decide (0 < cnt) = true := by simp; omega
          rw [dz]
          obtain ⟨N, hN⟩ : ∃ N, s.size + cnt = N := ⟨_, rfl⟩
          rw [hN]
          have hmk := fun W => make_bytes W N (by omega)
          have hNle : N ≤ 2199023255552 := by omega
          have HCN := Lib.hid hcn
          have HNN := Lib.hid hN
          clear z dz hcn hN
          go_wp2_with fail
          have hrow0 := madeRow (w.drewN m) N (by unfold maxLen; omega)
          have hB0 : Below w.heap.size w ((w.drewN m).alloc (.cells (madeCells #[.int .u8 0] N) 5)) := (pw_below_drewN (Below.refl _ w) m).alloc (Nat.le_refl _) _
          rw [show (w.drewN m).heap.size = w.heap.size from rfl] at hrow0
          go_loopw [13, 14] (fun jv i wr => ∃ k : Nat, k ≤ s.size ∧ i = .int .i64 (k : Int) ∧ jv = .int .i64 ((escTo s k).length : Int) ∧ RowB wr w.heap.size N (rowP N (ints (escTo s k))) ∧ Below w.heap.size w wr) (fun _ i _ => s.size - (intOf i).toNat)
          case atStart => exact ⟨0, Nat.zero_le _, rfl, rfl, hrow0, hB0⟩
          case round =>
            clear hrow0 hB0
            obtain ⟨k, hk, rfl, rfl, hrb, hB1⟩ := hrel
            by_cases hlt : k < s.size
            · have hle1 := escTo_le s (k + 1)
              rw [HCN.out, HNN.out, escTo_succ s k hlt] at hle1
              have HSU := Lib.hid (escTo_succ s k hlt)
              obtain ⟨l, hl⟩ : ∃ l, escTo s k = l := ⟨_, rfl⟩
              rw [hl] at HSU hle1 hrb ⊢
              clear hl
              obtain ⟨j, hj⟩ : ∃ j, l.length = j := ⟨_, rfl⟩
              rw [hj]
              have HJ := Lib.hid hj
              have hjl : (ints l).length = j := by rw [ints_length]; exact hj
              by_cases c34 : byteAt s k = 34
              · have he : escL (byteAt s k) = [92, 34] := by rw [c34]; rfl
                have HE := Lib.hid he
                rw [he, List.length_append, hj] at hle1
                have hj2 : j + 2 ≤ N := by simpa using hle1
                have hj3 : j < N := by omega
                have hk0 : ∀ hh, s[k]'hh = 34 := fun hh => (byteAt_get s k hh).trans c34
                have ec1 := pw_cell_below hB1 e34
                have hplt : p2 < w.heap.size := World.block_lt_of_cell? w ⟨p2, 0, none⟩ (hr2 0 (by decide)).1
                have hcp := copy_two wr w.heap.size j N (N - j) p2 c2 _ 92 34 hj2 hrb (hr2.below hB1 hplt)
                have hcp2 := copy_two wr.drew w.heap.size j N (N - j) p2 c2 _ 92 34 hj2 hrb (hr2.below hB1.drew hplt)
                have hset := hrb.set (rowP_length N _ (by omega)) j hj3 92
                rw [← hjl, rowP_set N _ _ (by omega), hjl] at hset
                have hl1 : (ints l ++ [92]).length = j + 1 := by rw [List.length_append, hjl]; rfl
                have hset2 := hset.set (rowP_length N _ (by omega)) (j + 1) (by omega) 34
                rw [← hl1, rowP_set N _ _ (by omega), hl1] at hset2
                clear hl1
                have HSET := Aside0.mk hset2
                clear he hset hset2 c34 hrb hj hjl hle1
                go_wp2_with fail
                go_region
                go_wp2_with fail
                refine ⟨⟨k + 1, by omega, by go_num, ?_, ?_, ((hB1.setCell (p := ⟨w.heap.size, j, none⟩) (Nat.le_refl _) _).setCell (p := ⟨w.heap.size, j + 1, none⟩) (Nat.le_refl _) _).drew⟩, by simp [intOf]; omega⟩
                · rw [HSU.out, HE.out, List.length_append, HJ.out]; go_num
                · rw [HSU.out, HE.out, ints_append]
                  have e : ints [92, 34] = [92, 34] := rfl
                  have h3 := HSET.out
                  rw [List.append_assoc] at h3
                  exact h3
              · by_cases c92 : byteAt s k = 92
                · have he : escL (byteAt s k) = [92, 92] := by rw [c92]; rfl
                  have HE := Lib.hid he
                  rw [he, List.length_append, hj] at hle1
                  have hj2 : j + 2 ≤ N := by simpa using hle1
                  have hj3 : j < N := by omega
                  have hk0 : ∀ hh, s[k]'hh = 92 := fun hh => (byteAt_get s k hh).trans c92
                  have ec1 := pw_cell_below hB1 e92
                  have hplt : p1 < w.heap.size := World.block_lt_of_cell? w ⟨p1, 0, none⟩ (hr1 0 (by decide)).1
                  have hcp := copy_two wr w.heap.size j N (N - j) p1 c1 _ 92 92 hj2 hrb (hr1.below hB1 hplt)
                  have hcp2 := copy_two wr.drew w.heap.size j N (N - j) p1 c1 _ 92 92 hj2 hrb (hr1.below hB1.drew hplt)
                  have hset := hrb.set (rowP_length N _ (by omega)) j hj3 92
                  rw [← hjl, rowP_set N _ _ (by omega), hjl] at hset
                  have hl1 : (ints l ++ [92]).length = j + 1 := by rw [List.length_append, hjl]; rfl
                  have hset2 := hset.set (rowP_length N _ (by omega)) (j + 1) (by omega) 92
                  rw [← hl1, rowP_set N _ _ (by omega), hl1] at hset2
                  clear hl1
                  have HSET := Aside0.mk hset2
                  clear he hset hset2 c92 hrb hj hjl hle1
                  go_wp2_with fail
                  go_region
                  go_wp2_with fail
                  refine ⟨⟨k + 1, by omega, by go_num, ?_, ?_, ((hB1.setCell (p := ⟨w.heap.size, j, none⟩) (Nat.le_refl _) _).setCell (p := ⟨w.heap.size, j + 1, none⟩) (Nat.le_refl _) _).drew⟩, by simp [intOf]; omega⟩
                  · rw [HSU.out, HE.out, List.length_append, HJ.out]; go_num
                  · rw [HSU.out, HE.out, ints_append]
                    have e : ints [92, 92] = [92, 92] := rfl
                    have h3 := HSET.out
                    rw [List.append_assoc] at h3
                    exact h3
                · have hb256 : (byteAt s k).toNat < 256 := (byteAt s k).toNat_lt
                  have n34 : (byteAt s k).toNat ≠ 34 := fun e => c34 (by rw [← UInt8.toNat_inj]; exact e)
                  have n92 : (byteAt s k).toNat ≠ 92 := fun e => c92 (by rw [← UInt8.toNat_inj]; exact e)
                  have ec := (hrow (byteAt s k).toNat (by omega)).1
                  have ef : fQ t 2 (.slice (some ⟨p1, 0, none⟩) 2 c1) (.slice (some ⟨p2, 0, none⟩) 2 c2) (byteAt s k).toNat = .slice none 0 0 := by
                    unfold fQ
                    rw [if_neg (by omega), if_neg n92, if_neg n34]
                  rw [ef] at ec
                  have ec1 := pw_cell_below hB1 ec
                  have he : escL (byteAt s k) = [byteAt s k] := by unfold escL; rw [if_neg c34, if_neg c92]
                  have HE := Lib.hid he
                  rw [he, List.length_append, hj] at hle1
                  have hj2 : j < N := by simp at hle1; omega
                  have hk0 : ∀ hh, s[k]'hh = byteAt s k := fun hh => byteAt_get s k hh
                  have ej := (hrb j hj2).1
                  have fj := (hrb j hj2).2
                  have hset := hrb.set (rowP_length N _ (by omega)) j hj2 ((byteAt s k).toNat : Int)
                  rw [← hjl, rowP_set N _ _ (by omega), hjl] at hset
                  have HSET := Aside0.mk hset
                  clear ef ec he hset n34 n92 c34 c92 hrb hj hjl hle1 e34 e92 e256
                  go_wp2_with fail
                  refine ⟨⟨k + 1, by omega, by go_num, ?_, ?_, hB1.setCell (p := ⟨w.heap.size, j, none⟩) (Nat.le_refl _) _⟩, by simp [intOf]; omega⟩
                  · rw [HSU.out, HE.out, List.length_append, HJ.out]; go_num
                  · rw [HSU.out, HE.out, ints_append]; exact HSET.out
            · obtain rfl : k = s.size := by omega
              have hf := escTo_le s s.size
              rw [HCN.out, HNN.out] at hf
              have hfl : (ints (escTo s s.size)).length = N := by
                rw [ints_length, escTo_all, escL_flat, HLB.out, HCN.out, HNN.out]
              have hc := run_convert_bytes_arg (P := Tryz.prog) wr 45 5 Tryz.underlying45 Tryz.underlying5 w.heap.size 0 N N _ (rowP_length N (ints (escTo s s.size)) (by omega)) (fun i hi => by rw [Nat.zero_add]; exact (hrb i hi).1) 9 Tryz.underlying9
              rw [rowP_full N _ hfl, ints_back, escTo_all] at hc
              clear hf hfl hrb
              go_wp2_with fail
              go_ret
              exact ⟨rfl, hB1⟩
end Go.Proofs.YtieompfmhnpnaaaGreat.H

namespace Go.Proofs.YtieompfmhnpnaaaGreat.H
open Go.RowKit Go.Proofs.YtieompfmhnpnaaaGreatW.PrintWords Go.Proofs.YtieompfmhnpnaaaGreatW.PrintLast Go.Proofs.YtieompfmhnpnaaaGreatW.PrintMore
set_option linter.unusedVariables false
set_option linter.unusedSimpArgs false

theorem TabQ.far {W : World} {B q g : Nat} (h : TabQ W B q) (hg : g < B) (j : Nat) (v : Value) : TabQ (W.setCell ⟨g, j, none⟩ v) B q := by
  obtain ⟨t, p1, c1, p2, c2, hq, hrow, ht, t0, t1, hp1, hr1, hp2, hr2⟩ := h
  have f : ∀ (b i : Nat), B ≤ b → (W.setCell ⟨g, j, none⟩ v).cell? ⟨b, i, none⟩ = W.cell? ⟨b, i, none⟩ := fun b i hb => World.cell?_setCell_far W ⟨g, j, none⟩ ⟨b, i, none⟩ v (show g ≠ b by omega)
  exact ⟨t, p1, c1, p2, c2, hq, hrow.far (by omega) j v, ht, (f t 0 ht).trans t0, (f t 1 ht).trans t1, hp1, hr1.far (by omega) j v, hp2, hr2.far (by omega) j v⟩
theorem TabQ.lower {W : World} {B B' q : Nat} (h : TabQ W B q) (hB : B' ≤ B) : TabQ W B' q := by
  obtain ⟨t, p1, c1, p2, c2, hq, hrow, ht, t0, t1, hp1, hr1, hp2, hr2⟩ := h
  exact ⟨t, p1, c1, p2, c2, by omega, hrow, by omega, t0, t1, by omega, hr1, by omega, hr2⟩
/-- What buildOnce leaves. -/
def TabledQ (B g : Nat) (w0 w : World) : Prop := ∃ h D, g < D ∧ w.cell? ⟨g, 3, none⟩ = some (.iface 133 (.pointer (some ⟨h, 0, none⟩))) ∧ TabQ w D h ∧ Below B w0 w

set_option maxRecDepth 100000 in
set_option maxHeartbeats 1000000 in
theorem buildOnce_strings (B g : Nat) (w : World) (hr : NewRep B w g 1 ⟨#[34]⟩ ⟨#[92, 34]⟩ ⟨#[92]⟩ ⟨#[92, 92]⟩) :
    Calls Tryz.prog 81 #[.pointer (some ⟨g, 0, none⟩)] w fun e w' => e = .returned (.tuple #[]) ∧ Held w' g ∧ TabledQ B g w w' := by
  have HR := Aside0.mk hr
  have hge := hr.ge
  have hlt : g < w.heap.size := World.block_lt_of_cell? w ⟨g, 0, none⟩ hr.done
  go_enter Tryz.func81, Tryz.ntmps81
  go_wp2_with fail
  refine (build_strings B g 1 w HR.out).mono ?_
  rintro e w1 ⟨h, rfl, hrow, hb⟩
  have d0 := pw_cell_below hb HR.out.done
  have d1 := pw_cell_below hb HR.out.state
  have d3 := pw_cell_below hb HR.out.r
  obtain ⟨k, cap, -, -, d4', -⟩ := HR.out.row
  have d4 := pw_cell_below hb d4'
  clear d4'
  have fz : ∀ j, w1.frozen? ⟨g, j, none⟩ = false := fun j => (hb.frozen (p := ⟨g, j, none⟩) hlt).trans (HR.out.fz j)
  have f3 := fz 3
  have f4 := fz 4
  have HROW := Aside0.mk hrow
  have HB := Aside0.mk hb
  have FZ := Aside0.mk fz
  clear hrow hb fz hr
  go_wp2_with fail
  go_end0
  have hBw : Below B w w1 := HB.out.mono (by omega)
  refine ⟨rfl, ⟨?_, ?_, ?_, ?_⟩, h, w.heap.size, hlt, ?_, ?_, (hBw.setCell (p := ⟨g, 3, none⟩) hge _).setCell (p := ⟨g, 4, none⟩) hge _⟩
  · exact (World.cell?_setCell_other _ ⟨g, 4, none⟩ ⟨g, 0, none⟩ _ (by simp)).trans ((World.cell?_setCell_other _ ⟨g, 3, none⟩ ⟨g, 0, none⟩ _ (by simp)).trans d0)
  · exact (World.cell?_setCell_other _ ⟨g, 4, none⟩ ⟨g, 1, none⟩ _ (by simp)).trans ((World.cell?_setCell_other _ ⟨g, 3, none⟩ ⟨g, 1, none⟩ _ (by simp)).trans d1)
  · rw [World.frozen?_setCell, World.frozen?_setCell]; exact FZ.out 0
  · rw [World.frozen?_setCell, World.frozen?_setCell]; exact FZ.out 1
  · exact (World.cell?_setCell_other _ ⟨g, 4, none⟩ ⟨g, 3, none⟩ _ (by simp)).trans (World.cell?_setCell_same _ _ _ d3)
  · exact (HROW.out.far hlt 3 _).far hlt 4 _

theorem method133 (a : Addr) (w : World) : (method 290 133 (.pointer (some a)) "Replace").run Tryz.prog w = .ok (158, .pointer (some a)) w := by kernel_rfl

set_option maxRecDepth 100000 in
set_option maxHeartbeats 1000000 in
theorem replace_strings (B g : Nat) (s : ByteArray) (w : World) (hs : s.size ≤ 1099511627776) (hB : B ≤ w.heap.size) (hr : NewRep B w g 0 ⟨#[34]⟩ ⟨#[92, 34]⟩ ⟨#[92]⟩ ⟨#[92, 92]⟩) :
    Calls Tryz.prog 53 #[.pointer (some ⟨g, 0, none⟩), .string s] w fun e w' => e = .returned (.string (escS s)) ∧ Below B w w' := by
  have hge := hr.ge
  have hlock := hr.locked 1
  have hfn := buildOnce_strings B g _ hlock
  have hfresh : Fresh w g := ⟨hr.done, hr.state, hr.fz 0, hr.fz 1⟩
  have HFN := Aside0.mk hfn
  clear hfn hlock hr
  go_enter Tryz.func53, Tryz.ntmps53
  go_wp2_with fail
  refine (do_first g w hfresh _ HFN.out).mono ?_
  rintro e w1 ⟨rfl, w2, ⟨h, D, hD, hc3, hrow, hb⟩, hw⟩
  have e3 : w1.cell? ⟨g, 3, none⟩ = some (.iface 133 (.pointer (some ⟨h, 0, none⟩))) := by
    rw [hw]
    exact (World.cell?_setCell_other _ ⟨g, 1, none⟩ ⟨g, 3, none⟩ _ (by simp)).trans ((World.cell?_setCell_other _ ⟨g, 0, none⟩ ⟨g, 3, none⟩ _ (by simp)).trans hc3)
  have hrow1 : TabQ w1 D h := by
    rw [hw]
    exact (TabQ.far (W := w2.drew) hrow hD 0 _).far hD 1 _
  have hb1 : Below B w w1 := by
    rw [hw]
    exact (((((Below.refl B w).setCell (p := ⟨g, 1, none⟩) hge _).trans hb).drew).setCell (p := ⟨g, 0, none⟩) hge _).setCell (p := ⟨g, 1, none⟩) hge _
  clear hw hrow hb hc3
  have HROW := Aside0.mk hrow1
  have HB := Aside0.mk hb1
  clear hrow1 hb1
  have hm := method133
  go_wp2_with fail
  refine (strReplace D h s w1 hs HROW.out).mono ?_
  rintro e w3 ⟨rfl, hb3⟩
  have HB3 := Aside0.mk hb3
  clear hb3
  go_wp2_with fail
  go_ret
  exact ⟨rfl, HB.out.trans (HB3.out.mono (by have := HB.out.size; omega))⟩
end Go.Proofs.YtieompfmhnpnaaaGreat.H
