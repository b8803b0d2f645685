/- Part 3 of the proof of Ht: contracts and plain laws, joined and shortened by bundle.py of this repo. -/
import Derived.Test.YtieompfmhnpnaaaGreatKHt2
import Derived.Lib.Bytealg
import Derived.Laws.IdiomCopy
import Derived.Deep.RegionHeld3
import Derived.Maps.AppendAt
import Derived.RangeFuncNested
import Derived.RangeFuncBox
import Derived.RangeFuncLeaves
import Derived.Shelf.Abstract
import Derived.WalkKit
import Derived.OwnWalkIn
import Derived.TacticsInMore
import Derived.LoopNIn
import Derived.LoopIn
import Derived.Laws.EntriesVeiled
import Derived.Maps.OwnIn
import Derived.Maps.Views
import Derived.StringKeys
import Derived.Carry
section
namespace Go.Proofs.YtieompfmhnpnaaaGreat.H
open Go.RowKit Go.Proofs.YtieompfmhnpnaaaGreatW.PrintWords Go.Proofs.YtieompfmhnpnaaaGreatW.PrintLast Go.Proofs.YtieompfmhnpnaaaGreatW.PrintMore
set_option linter.unusedVariables false
set_option linter.unusedSimpArgs false
def specB : List UInt8 := [40, 41, 60, 62, 64, 44, 59, 58, 92, 34, 47, 91, 93, 63, 61]
def tokB (c : UInt8) : Bool := visB c && !(specB.contains c)
def isTokenB (s : ByteArray) : Bool := (bl s).all tokB && !(bl s).isEmpty
theorem spec_at (c : UInt8) : (Lib.indexByte specB c ≥ 0) ↔ specB.contains c = true := by
  constructor
  · intro h
    obtain ⟨o, ho⟩ : ∃ o : Nat, Lib.indexByte specB c = o := ⟨(Lib.indexByte specB c).toNat, by omega⟩
    have := (Lib.indexByte_some ho).1
    rw [List.contains_iff_mem]
    exact List.mem_of_getElem? this
  · intro h
    rw [List.contains_iff_mem] at h
    have hge := Lib.indexByte_ge specB c
    rcases Int.lt_or_le (Lib.indexByte specB c) 0 with h0 | h0
    · have h1 : Lib.indexByte specB c = -1 := by omega
      obtain ⟨i, hi, rfl⟩ := List.getElem_of_mem h
      exact absurd (List.getElem?_eq_getElem hi) (Lib.indexByte_none h1 i)
    · exact h0
theorem isToken_l0 (s : ByteArray) (hs : s.size ≤ 1099511627776) : ∀ (n i : Nat), i + n = s.size →
    Ev (fun k => header_isToken.l0 k s (s.size : Int) (i : Int)) (((bl s).drop i).all tokB && !(bl s).isEmpty)
  | 0, i, hi => by
    have hl := bl_length s
    refine Ev.step (fun k => by simp only [header_isToken.l0]; rfl) ?_
    refine ev_no (by omega) ?_
    refine ev_done ?_
    rw [List.drop_of_length_le (by omega), toList_bl]
    cases bl s <;> rfl
  | n + 1, i, hi => by
    refine Ev.step (fun k => by simp only [header_isToken.l0]; rfl) ?_
    have hb := bt_byteAt s i (by omega)
    refine ev_yes (by omega) ?_
    refine ev_yes (by omega) ?_
    refine ev_yes (by omega) ?_
    simp only [hb, visible_at, Option.bind_some]
    rw [drop_byteAt s i (by omega), List.all_cons]
    by_cases hv : visB (byteAt s i) = true
    · have hx : strings_IndexByte.f (⟨#[40, 41, 60, 62, 64, 44, 59, 58, 92, 34, 47, 91, 93, 63, 61]⟩ : ByteArray) ((byteAt s i).toNat : Int) = some (Lib.indexByte specB (byteAt s i)) := by
        unfold strings_IndexByte.f
        simp [specB]
      simp only [hv, if_true, hx, Option.bind_some]
      by_cases hsp : specB.contains (byteAt s i) = true
      · have ht : tokB (byteAt s i) = false := by unfold tokB; rw [hsp]; simp
        rw [ht]
        refine ev_yes ((spec_at _).2 hsp) ?_
        simp only [Bool.false_and]
        exact Ev.now _
      · have ht : tokB (byteAt s i) = true := by
          unfold tokB
          rw [hv]
          simp only [Bool.true_and]
          simpa using hsp
        rw [ht]
        refine ev_no (fun h => hsp ((spec_at _).1 h)) ?_
        simp only [Bool.true_and]
        rw [wrap_up i (by omega)]
        exact isToken_l0 s hs n (i + 1) (by omega)
    · have hv' : visB (byteAt s i) = false := by simpa using hv
      have ht : tokB (byteAt s i) = false := by unfold tokB; rw [hv']; rfl
      simp only [hv', ht, Bool.false_and]
      exact Ev.now _
theorem isToken_ev (s : ByteArray) (hs : s.size ≤ 1099511627776) : Ev (fun k => header_isToken.f k s) (isTokenB s) := by
  unfold header_isToken.f isTokenB
  have := isToken_l0 s hs s.size 0 (by omega)
  simpa using this
end Go.Proofs.YtieompfmhnpnaaaGreat.H
end
section
namespace Go.Proofs.YtieompfmhnpnaaaGreat.H
open Go.RowKit Go.Proofs.YtieompfmhnpnaaaGreatW.PrintWords Go.Proofs.YtieompfmhnpnaaaGreatW.PrintLast Go.Proofs.YtieompfmhnpnaaaGreatW.PrintMore
set_option linter.unusedVariables false
set_option linter.unusedSimpArgs false
def fQ (t n : Nat) (v92 v34 : Value) (j : Nat) : Value := if j = 256 then .slice (some ⟨t, 0, none⟩) n 2 else if j = 92 then v92 else if j = 34 then v34 else .slice none 0 0
def RowQ (W : World) (q t n : Nat) (v92 v34 : Value) : Prop := ∀ j, j < 257 → W.cell? ⟨q, j, none⟩ = some (fQ t n v92 v34 j) ∧ W.frozen? ⟨q, j, none⟩ = false
section
variable {W W' : World} {q t n : Nat} {v92 v34 : Value}
theorem RowQ.setAt (h : RowQ W q t n v92 v34) {k : Nat} {v : Value} {n' : Nat} {a b : Value} (hk : k < 257) (hs : fQ t n' a b k = v) (ho : ∀ j, j < 257 → j ≠ k → fQ t n' a b j = fQ t n v92 v34 j) : RowQ (W.setCell ⟨q, k, none⟩ v) q t n' a b := fun j hj => by
  refine ⟨?_, by rw [World.frozen?_setCell]; exact (h j hj).2⟩
  by_cases e : j = k
  · subst e
    rw [hs]
    exact World.cell?_setCell_same _ _ _ (h j hj).1
  · rw [ho j hj e]
    exact (World.cell?_setCell_other _ ⟨q, k, none⟩ ⟨q, j, none⟩ _ (fun e2 => by injection e2 with _ e3; exact e e3.symm)).trans (h j hj).1
theorem RowQ.set256 (h : RowQ W q t n v92 v34) (n' : Nat) : RowQ (W.setCell ⟨q, 256, none⟩ (.slice (some ⟨t, 0, none⟩) n' 2)) q t n' v92 v34 :=
  h.setAt (by decide) rfl (fun j _ hj => by simp [fQ, hj])
theorem RowQ.set92 (h : RowQ W q t n v92 v34) (v : Value) : RowQ (W.setCell ⟨q, 92, none⟩ v) q t n v v34 :=
  h.setAt (by decide) rfl (fun j _ hj => by simp [fQ, hj])
theorem RowQ.set34 (h : RowQ W q t n v92 v34) (v : Value) : RowQ (W.setCell ⟨q, 34, none⟩ v) q t n v92 v :=
  h.setAt (by decide) rfl (fun j _ hj => by simp [fQ, hj])
theorem RowQ.far (h : RowQ W q t n v92 v34) {g : Nat} (hne : g ≠ q) (j : Nat) (v : Value) : RowQ (W.setCell ⟨g, j, none⟩ v) q t n v92 v34 := fun i hi =>
  ⟨(World.cell?_setCell_far W ⟨g, j, none⟩ ⟨q, i, none⟩ v hne).trans (h i hi).1, by rw [World.frozen?_setCell]; exact (h i hi).2⟩
theorem RowQ.grown {g : Nat} (h : RowQ W q t n v92 v34) (hb : W.grownBy W' (some g)) (hne : g ≠ q) : RowQ W' q t n v92 v34 := fun j hj => by
  have hlt : q < W.heap.size := World.block_lt_of_cell? W _ (h j hj).1
  have hbk := hb.block q hlt (fun e => hne (by injection e with e; exact e.symm))
  exact ⟨(World.cell?_of_block (a := ⟨q, j, none⟩) hbk).trans (h j hj).1, (World.frozen?_of_block (a := ⟨q, j, none⟩) hbk).trans (h j hj).2⟩
theorem RowQ.alloc (h : RowQ W q t n v92 v34) (o : Obj) : RowQ (W.alloc o) q t n v92 v34 := fun j hj => by
  have hlt : q < W.heap.size := World.block_lt_of_cell? W _ (h j hj).1
  have hbk := Lib.alloc_old W o q hlt
  exact ⟨(World.cell?_of_block (a := ⟨q, j, none⟩) hbk).trans (h j hj).1, (World.frozen?_of_block (a := ⟨q, j, none⟩) hbk).trans (h j hj).2⟩
theorem RowQ.bytes (h : RowQ W q t n v92 v34) (s : ByteArray) : RowQ (Lib.bytesWorld W 5 s) q t n v92 v34 := fun j hj => by
  have hlt : q < W.heap.size := World.block_lt_of_cell? W _ (h j hj).1
  have hbk := (below_bytes (Below.refl W.heap.size W) (Nat.le_refl _) s).block q hlt
  exact ⟨(World.cell?_of_block (a := ⟨q, j, none⟩) hbk).trans (h j hj).1, (World.frozen?_of_block (a := ⟨q, j, none⟩) hbk).trans (h j hj).2⟩
theorem RowQ.below {B : Nat} (h : RowQ W q t n v92 v34) (hb : Below B W W') (hB : q < B) : RowQ W' q t n v92 v34 := fun j hj =>
  ⟨(hb.cell (p := ⟨q, j, none⟩) hB).trans (h j hj).1, (hb.frozen (p := ⟨q, j, none⟩) hB).trans (h j hj).2⟩
end
def repQ (n : Nat) (v : Value) : Array Value := (List.replicate n (Value.slice none 0 0) ++ [v]).toArray
theorem repQ_size (n : Nat) (v : Value) : (repQ n v).size = n + 1 := by simp [repQ]
theorem repQ_all (n : Nat) (v : Value) (hv : v.oneCell' = true) : (repQ n v).all (·.oneCell') = true := by
  rw [Array.all_eq_true']
  intro x hx
  simp [repQ] at hx
  rcases hx with ⟨_, rfl⟩ | rfl
  · rfl
  · exact hv
theorem repQ_set (n : Nat) (v : Value) : (List.replicate (n + 1) (Value.slice none 0 0)).set n v = (repQ n v).toList := by
  have : (List.replicate (n + 1) (Value.slice none 0 0)) = List.replicate n (Value.slice none 0 0) ++ [Value.slice none 0 0] := List.replicate_succ'
  rw [this, List.set_append_right _ _ (by simp)]
  simp [repQ]
theorem repQ_at (n : Nat) (v : Value) (j : Nat) (hj : j < n + 1) : (repQ n v)[j]? = some (if j = n then v else .slice none 0 0) := by
  unfold repQ
  by_cases e : j = n
  · subst e; simp
  · rw [if_neg e]
    have : j < n := by omega
    simp [List.getElem?_append, this]
theorem conv_one (W : World) (c : Nat) (hc : c < 256) : (convert 45 9 (.slice (some ⟨W.heap.size, 0, none⟩) 1 1)).run Tryz.prog (W.alloc (.cells #[.int .u8 (c : Int)] 5)) = .ok (.string ⟨#[UInt8.ofNat c]⟩) (W.alloc (.cells #[.int .u8 (c : Int)] 5)) := by
  have := run_convert_bytes_arg (P := Tryz.prog) (W.alloc (.cells #[.int .u8 (c : Int)] 5)) 45 5 Tryz.underlying45 Tryz.underlying5 W.heap.size 0 1 1 [(c : Int)] rfl (fun i hi => by
    obtain rfl : i = 0 := by simp at hi; omega
    rw [World.cell?_alloc_new]
    rfl) 9 Tryz.underlying9
  refine this.trans ?_
  have e : strOfNums [(c : Int)] = ⟨#[UInt8.ofNat c]⟩ := by
    unfold strOfNums
    simp
  rw [e]
theorem zeroCells132_eq : Tryz.zeroCells132.toList = List.replicate (256 + 1) (Value.slice none 0 0) := by kernel_rfl
def rowQ0 (t : Nat) : Array Value := repQ 256 (Value.slice (some ⟨t, 0, none⟩) 0 2)
theorem rowQ0_eq (t : Nat) : Tryz.zeroCells132.toList.set 256 (Value.slice (some ⟨t, 0, none⟩) 0 2) = (rowQ0 t).toList := by
  rw [zeroCells132_eq]
  exact repQ_set 256 _
theorem rowQ0_size (t : Nat) : (rowQ0 t).size = 257 := repQ_size 256 _
theorem rowQ0_all (t : Nat) : (rowQ0 t).all (·.oneCell') = true := repQ_all 256 _ rfl
theorem rowQ0_at (W : World) (t : Nat) : RowQ (W.alloc (.cells (rowQ0 t) 132)) W.heap.size t 0 (.slice none 0 0) (.slice none 0 0) := fun j hj => by
  refine ⟨?_, Lib.frozen_of_heap (heap_alloc_new W _) j⟩
  rw [World.cell?_alloc_new]
  unfold rowQ0
  rw [repQ_at 256 _ j hj]
  unfold fQ
  by_cases e : j = 256
  · rw [if_pos e, if_pos e]
  · rw [if_neg e, if_neg e]
    simp
def QS (n0 : Nat) (w : World) (i : Value) (W : World) : Prop :=
  (i = .int .i64 2 ∧ RowQ W (n0 + 1) n0 0 (.slice none 0 0) (.slice none 0 0) ∧ W.ownsRow n0 9 1 (.slice (some ⟨n0, 0, none⟩) 0 2) 0 [] ∧ Below n0 w W) ∨
  (i = .int .i64 0 ∧ ∃ p1 c1, RowQ W (n0 + 1) n0 1 (.slice (some ⟨p1, 0, none⟩) 2 c1) (.slice none 0 0) ∧ W.ownsRow n0 9 1 (.slice (some ⟨n0, 0, none⟩) 1 2) 1 [.string ⟨#[92]⟩] ∧ RowB W p1 2 [92, 92] ∧ n0 + 1 < p1 ∧ Below n0 w W) ∨
  (i = .int .i64 (-2) ∧ ∃ p1 c1 p2 c2, RowQ W (n0 + 1) n0 2 (.slice (some ⟨p1, 0, none⟩) 2 c1) (.slice (some ⟨p2, 0, none⟩) 2 c2) ∧ W.ownsRow n0 9 1 (.slice (some ⟨n0, 0, none⟩) 2 2) 2 [.string ⟨#[92]⟩, .string ⟨#[34]⟩] ∧ RowB W p1 2 [92, 92] ∧ RowB W p2 2 [92, 34] ∧ n0 + 1 < p1 ∧ n0 + 1 < p2 ∧ Below n0 w W)
theorem stage_next {n0 k : Nat} {w wr w2 : World} {o1 o2 : Obj} {xs : List Value} (hq : n0 + 1 < wr.heap.size) (hB1 : Below n0 w wr) (hn : n0 ≤ w.heap.size)
    (hO : w2.ownsRow n0 9 1 (.slice (some ⟨n0, 0, none⟩) k 2) k xs) (hg : ((wr.alloc o1).alloc o2).grownBy w2 (some n0)) (s : ByteArray) (u v : Value) (j : Nat) :
    ((Lib.bytesWorld (w2.setCell ⟨n0 + 1, 256, none⟩ u) 5 s).setCell ⟨n0 + 1, j, none⟩ v).ownsRow n0 9 1 (.slice (some ⟨n0, 0, none⟩) k 2) k xs ∧
    RowB ((Lib.bytesWorld (w2.setCell ⟨n0 + 1, 256, none⟩ u) 5 s).setCell ⟨n0 + 1, j, none⟩ v) w2.heap.size s.size (tabRow s [] 0) ∧ n0 + 1 < w2.heap.size ∧
    Below n0 w ((Lib.bytesWorld (w2.setCell ⟨n0 + 1, 256, none⟩ u) 5 s).setCell ⟨n0 + 1, j, none⟩ v) ∧
    (∀ p m ys, n0 + 1 < p → 0 < m → RowB wr p m ys → RowB ((Lib.bytesWorld (w2.setCell ⟨n0 + 1, 256, none⟩ u) 5 s).setCell ⟨n0 + 1, j, none⟩ v) p m ys) := by
  have hs2 : n0 + 1 < w2.heap.size := by have := hg.size; simp at this; omega
  have hs3 : (w2.setCell ⟨n0 + 1, 256, none⟩ u).heap.size = w2.heap.size := by simp [World.setCell]
  have hbb := below_bytes (Below.refl (w2.setCell ⟨n0 + 1, 256, none⟩ u).heap.size _) (Nat.le_refl _) s
  refine ⟨?_, ?_, hs2, ?_, ?_⟩
  · have h3' : (w2.setCell ⟨n0 + 1, 256, none⟩ u).ownsRow n0 9 1 (.slice (some ⟨n0, 0, none⟩) k 2) k xs := own_setCell hO (by simp [Value.ownBlock]) u
    exact own_setCell (pw_own_below h3' hbb) (by simp [Value.ownBlock]) v
  · have := (row_of_bytes (w2.setCell ⟨n0 + 1, 256, none⟩ u) s []).far (g := n0 + 1) (by rw [hs3]; omega) j v
    rw [hs3] at this
    exact this
  · refine Below.setCell ?_ (p := ⟨n0 + 1, j, none⟩) (by simp) v
    refine below_bytes ?_ (by rw [hs3]; omega) s
    refine Below.setCell ?_ (p := ⟨n0 + 1, 256, none⟩) (by simp) u
    have hs := hB1.size
    exact ((hB1.alloc (by omega) _).alloc (by simp; omega) _).grown hg (by simp; omega) (fun q e => by injection e with e; omega)
  · intro p m ys hp hm hr
    have hlt : p < wr.heap.size := World.block_lt_of_cell? wr ⟨p, 0, none⟩ (hr 0 hm).1
    have r2 : RowB w2 p m ys := fun i hi => by
      have hbk : w2.heap[p]? = wr.heap[p]? := by
        rw [hg.block p (by simp; omega) (fun e => by injection e with e; omega), Lib.alloc_old _ _ _ (by simp; omega), Lib.alloc_old _ _ _ hlt]
      exact ⟨(World.cell?_of_block (a := ⟨p, i, none⟩) hbk).trans (hr i hi).1, (World.frozen?_of_block (a := ⟨p, i, none⟩) hbk).trans (hr i hi).2⟩
    have hlt2 : p < w2.heap.size := World.block_lt_of_cell? w2 ⟨p, 0, none⟩ (r2 0 hm).1
    exact (((r2.far (g := n0 + 1) (by omega) 256 u).below hbb (by rw [hs3]; exact hlt2))).far (by omega) j v
def TabQ (W : World) (B q : Nat) : Prop := ∃ t p1 c1 p2 c2, B ≤ q ∧ RowQ W q t 2 (.slice (some ⟨p1, 0, none⟩) 2 c1) (.slice (some ⟨p2, 0, none⟩) 2 c2) ∧ B ≤ t ∧ W.cell? ⟨t, 0, none⟩ = some (.string ⟨#[92]⟩) ∧ W.cell? ⟨t, 1, none⟩ = some (.string ⟨#[34]⟩) ∧ B ≤ p1 ∧ RowB W p1 2 [92, 92] ∧ B ≤ p2 ∧ RowB W p2 2 [92, 34]
set_option maxRecDepth 100000 in
set_option maxHeartbeats 1000000 in
theorem build_strings (B g : Nat) (st : Int) (w : World) (hr : NewRep B w g st ⟨#[34]⟩ ⟨#[92, 34]⟩ ⟨#[92]⟩ ⟨#[92, 92]⟩) :
    Calls Tryz.prog 95 #[.pointer (some ⟨g, 0, none⟩)] w fun e w' => ∃ h, e = .returned (.iface 133 (.pointer (some ⟨h, 0, none⟩))) ∧ TabQ w' w.heap.size h ∧ Below w.heap.size w w' := by
  obtain ⟨hge, -, -, -, -, h, cap, hB, hne, g4, c0, c1, c2, c3⟩ := hr
  have hlt : h < w.heap.size := World.block_lt_of_cell? w ⟨h, 0, none⟩ c0
  go_enter Tryz.func95, Tryz.ntmps95
  go_wp2_with fail
  go_loop [4, 5] (fun a i => ∃ k : Nat, k ≤ 2 ∧ i = .int .i64 (2 * k : Nat) ∧ (0 < k → a = .bool false) ∧ ∃ b, a = .bool b) (fun _ i => (4 - intOf i).toNat)
  case atStart => exact ⟨0, by omega, rfl, fun h => by omega, _, rfl⟩
  case round =>
    obtain ⟨k, hk, rfl, ha, b, rfl⟩ := hrel
    obtain rfl | rfl | rfl : k = 0 ∨ k = 1 ∨ k = 2 := by omega
    · clear ha
      go_wp2_with fail
      go_round
      case rel => exact ⟨1, by omega, rfl, fun _ => rfl, _, rfl⟩
      case measure => simp [intOf]
    · clear ha
      go_wp2_with fail
      go_round
      case rel => exact ⟨2, by omega, rfl, fun _ => rfl, _, rfl⟩
      case measure => simp [intOf]
    · obtain rfl : b = false := by have := ha (by omega); injection this
      clear ha
      have hmk : (Instr.makeSlice 42 (.int .i64 0) (.int .i64 2)).run Tryz.prog w = .ok (.slice (some ⟨w.heap.size, 0, none⟩) 0 2) (w.alloc (.cells #[.string ⟨#[]⟩, .string ⟨#[]⟩] 9)) := by
        obtain ⟨i0, hi, hz0, hz1, hz2⟩ := info_parts info9
        have := run_make (P := Tryz.prog) (w := w) 42 9 i0 (.string ⟨#[]⟩) Tryz.underlying42 hi hz0 .i64 .i64 0 2 (by decide) (by decide) (by rw [hz2]; decide) (by decide)
        rw [hz1] at this
        refine this.trans ?_
        have e : madeCells (Value.string ⟨#[]⟩).cells (Int.toNat 2 * 1) = #[.string ⟨#[]⟩, .string ⟨#[]⟩] := by kernel_rfl
        rw [e]
        rfl
      have hst := run_storeCells_new (P := Tryz.prog) (w.alloc (.cells #[.string ⟨#[]⟩, .string ⟨#[]⟩] 9)) 132 Tryz.zeroCells132 (rowQ0 w.heap.size) (by rw [rowQ0_size]; kernel_rfl) (by rw [rowQ0_size]; kernel_rfl) (rowQ0_all _)
      rw [World.size_alloc, ← rowQ0_eq] at hst
      go_wp2_with fail
      clear hst hmk
      have qT : ∀ (w : World) (a : Option Addr) (n c n' c' : Nat), (binOp .eql 45 (.slice a n c) (.slice none n' c')).run Tryz.prog w = .ok (.bool a.isNone) w := fun w a n c n' c' => Lib.run_eql_slice_nil w _ _ a n c n' c' Tryz.underlying45
      have hrow0 := rowQ0_at (w.alloc (.cells #[.string ⟨#[]⟩, .string ⟨#[]⟩] 9)) w.heap.size
      rw [World.size_alloc] at hrow0
      have hB0 : Below w.heap.size w ((w.alloc (.cells #[.string ⟨#[]⟩, .string ⟨#[]⟩] 9)).alloc (.cells (rowQ0 w.heap.size) 132)) := ((Below.refl _ _).alloc (Nat.le_refl _) _).alloc (by simp) _
      have ht0 : ((w.alloc (.cells #[.string ⟨#[]⟩, .string ⟨#[]⟩] 9)).alloc (.cells (rowQ0 w.heap.size) 132)).ownsRow w.heap.size 9 1 (.slice (some ⟨w.heap.size, 0, none⟩) 0 2) 0 [] :=
        ⟨rfl, .inr ⟨w.heap.size, 2, #[.string ⟨#[]⟩, .string ⟨#[]⟩], rfl, Nat.le_refl _, (Lib.alloc_old _ _ _ (by simp)).trans (heap_alloc_new w _), by decide, by decide, rfl, rfl⟩⟩
      obtain ⟨i0, hi, hz0, hz1, hz2⟩ := info_parts info9
      go_loopw [12] (QS w.heap.size w) (fun i _ => (intOf i + 2).toNat)
      case atStart => exact .inl ⟨rfl, hrow0, ht0, hB0⟩
      case round =>
        clear hrow0 hB0 ht0
        have k0 : ∀ hh : 0 < (⟨#[34]⟩ : ByteArray).size, (⟨#[34]⟩ : ByteArray)[0]'hh = 34 := fun _ => rfl
        have k1 : ∀ hh : 0 < (⟨#[92]⟩ : ByteArray).size, (⟨#[92]⟩ : ByteArray)[0]'hh = 92 := fun _ => rfl
        rcases hrel with ⟨rfl, hrow, ht, hB1⟩ | ⟨rfl, p1, q1, hrow, ht, hr1, hp1, hB1⟩ | ⟨rfl, p1, q1, p2, q2, hrow, ht, hr1, hr2, hp1, hp2, hB1⟩
        · have d0 := pw_cell_below hB1 c0
          have d1 := pw_cell_below hB1 c1
          have d2 := pw_cell_below hB1 c2
          have d3 := pw_cell_below hB1 c3
          have e92 : wr.cell? ⟨w.heap.size + 1, 92, none⟩ = some (.slice none 0 0) := (hrow 92 (by decide)).1
          have e256 : wr.cell? ⟨w.heap.size + 1, 256, none⟩ = some (.slice (some ⟨w.heap.size, 0, none⟩) 0 2) := (hrow 256 (by decide)).1
          have f256 := (hrow 256 (by decide)).2
          have f92 := (hrow 92 (by decide)).2
          have hc1 : (convert 45 9 (.slice (some ⟨wr.heap.size, 0, none⟩) 1 1)).run Tryz.prog (wr.alloc (.cells #[.int .u8 92] 5)) = .ok (.string ⟨#[92]⟩) (wr.alloc (.cells #[.int .u8 92] 5)) := conv_one wr 92 (by decide)
          have hcv : ∀ W : World, (convert 9 45 (.string ⟨#[92, 92]⟩)).run Tryz.prog W = .ok (.slice (some ⟨W.heap.size, 0, none⟩) 2 (grownCap W 2 0 5)) (Lib.bytesWorld W 5 ⟨#[92, 92]⟩) := fun W => Lib.run_convert_string_bytes W 9 45 5 ⟨#[92, 92]⟩ Tryz.underlying9 Tryz.underlying45 Tryz.underlying5
          go_wp2_with (at_builtin; refine wpList_append_fits _ rfl _ _ 42 rfl w.heap.size 9 i0 1 Tryz.underlying42 hi hz1 w.heap.size 0 2 [] rfl ((ht.alloc _).alloc _) ⟨wr.heap.size + 1, 0, none⟩ 1 1 [.string ⟨#[92]⟩] rfl rfl ?c1 ?c2 (by decide) ?_)
          case c1 =>
            intro j u hj
            match j, hj with
            | 0, hj => simp at hj; subst hj; rw [add_plain, show wr.heap.size + 1 = (wr.alloc (.cells #[.int .u8 92] 5)).heap.size by simp]; exact (World.cell?_alloc_new _ _ _ _).trans rfl
          case c2 => intro u hu; simp at hu; subst hu; rfl
          intro w2 hown2 hg2
          have hr2 := ((hrow.alloc _).alloc _).grown hg2 (by omega)
          have e256' : w2.cell? ⟨w.heap.size + 1, 256, none⟩ = some (.slice (some ⟨w.heap.size, 0, none⟩) 0 2) := (hr2 256 (by decide)).1
          have f256' := (hr2 256 (by decide)).2
          have hr3 := (hr2.set256 1).bytes ⟨#[92, 92]⟩
          have e92' := (hr3 92 (by decide)).1
          have f92' := (hr3 92 (by decide)).2
          have HR3 := Aside0.mk hr3
          have HO2 := Aside0.mk hown2
          have HG2 := Aside0.mk hg2
          clear hr2 hr3 hown2 hg2 e256 f256 e92 f92 hc1
          go_wp2_with fail
          obtain ⟨n1, n2, n3, n4, n5⟩ := stage_next (by have := World.block_lt_of_cell? wr _ (hrow 0 (by decide)).1; exact this) hB1 (Nat.le_refl _) HO2.out HG2.out ⟨#[92, 92]⟩ (.slice (some ⟨w.heap.size, 0, none⟩) 1 2) (.slice (some ⟨w2.heap.size, 0, none⟩) 2 (grownCap (w2.setCell ⟨w.heap.size + 1, 256, none⟩ (.slice (some ⟨w.heap.size, 0, none⟩) 1 2)) 2 0 5)) 92
          refine ⟨.inr (.inl ⟨rfl, w2.heap.size, _, HR3.out.set92 _, n1, n2, n3, n4⟩), by simp [intOf]⟩
        · have d0 := pw_cell_below hB1 c0
          have d1 := pw_cell_below hB1 c1
          have d2 := pw_cell_below hB1 c2
          have d3 := pw_cell_below hB1 c3
          have e92 : wr.cell? ⟨w.heap.size + 1, 34, none⟩ = some (.slice none 0 0) := (hrow 34 (by decide)).1
          have e256 : wr.cell? ⟨w.heap.size + 1, 256, none⟩ = some (.slice (some ⟨w.heap.size, 0, none⟩) 1 2) := (hrow 256 (by decide)).1
          have f256 := (hrow 256 (by decide)).2
          have f92 := (hrow 34 (by decide)).2
          have hc1 : (convert 45 9 (.slice (some ⟨wr.heap.size, 0, none⟩) 1 1)).run Tryz.prog (wr.alloc (.cells #[.int .u8 34] 5)) = .ok (.string ⟨#[34]⟩) (wr.alloc (.cells #[.int .u8 34] 5)) := conv_one wr 34 (by decide)
          have hcv : ∀ W : World, (convert 9 45 (.string ⟨#[92, 34]⟩)).run Tryz.prog W = .ok (.slice (some ⟨W.heap.size, 0, none⟩) 2 (grownCap W 2 0 5)) (Lib.bytesWorld W 5 ⟨#[92, 34]⟩) := fun W => Lib.run_convert_string_bytes W 9 45 5 ⟨#[92, 34]⟩ Tryz.underlying9 Tryz.underlying45 Tryz.underlying5
          go_wp2_with (at_builtin; refine wpList_append_fits _ rfl _ _ 42 rfl w.heap.size 9 i0 1 Tryz.underlying42 hi hz1 w.heap.size 1 2 [.string ⟨#[92]⟩] rfl ((ht.alloc _).alloc _) ⟨wr.heap.size + 1, 0, none⟩ 1 1 [.string ⟨#[34]⟩] rfl rfl ?c1 ?c2 (by decide) ?_)
          case c1 =>
            intro j u hj
            match j, hj with
            | 0, hj => simp at hj; subst hj; rw [add_plain, show wr.heap.size + 1 = (wr.alloc (.cells #[.int .u8 34] 5)).heap.size by simp]; exact (World.cell?_alloc_new _ _ _ _).trans rfl
          case c2 => intro u hu; simp at hu; subst hu; rfl
          intro w2 hown2 hg2
          have hr2 := ((hrow.alloc _).alloc _).grown hg2 (by omega)
          have e256' : w2.cell? ⟨w.heap.size + 1, 256, none⟩ = some (.slice (some ⟨w.heap.size, 0, none⟩) 1 2) := (hr2 256 (by decide)).1
          have f256' := (hr2 256 (by decide)).2
          have hr3 := (hr2.set256 2).bytes ⟨#[92, 34]⟩
          have e92' := (hr3 34 (by decide)).1
          have f92' := (hr3 34 (by decide)).2
          have HR3 := Aside0.mk hr3
          have HO2 := Aside0.mk hown2
          have HG2 := Aside0.mk hg2
          clear hr2 hr3 hown2 hg2 e256 f256 e92 f92 hc1
          go_wp2_with fail
          obtain ⟨n1, n2, n3, n4, n5⟩ := stage_next (by have := World.block_lt_of_cell? wr _ (hrow 0 (by decide)).1; exact this) hB1 (Nat.le_refl _) HO2.out HG2.out ⟨#[92, 34]⟩ (.slice (some ⟨w.heap.size, 0, none⟩) 2 2) (.slice (some ⟨w2.heap.size, 0, none⟩) 2 (grownCap (w2.setCell ⟨w.heap.size + 1, 256, none⟩ (.slice (some ⟨w.heap.size, 0, none⟩) 2 2)) 2 0 5)) 34
          refine ⟨.inr (.inr ⟨rfl, p1, q1, w2.heap.size, _, HR3.out.set34 _, n1, n5 p1 2 _ hp1 (by decide) hr1, n2, hp1, n3, n4⟩), by simp [intOf]⟩
        · go_wp2_with fail
          go_ret
          have htl := ht.cellAt 0 (by decide)
          have htl1 := ht.cellAt 1 (by decide)
          exact ⟨w.heap.size + 1, rfl, ⟨w.heap.size, p1, q1, p2, q2, by omega, hrow, Nat.le_refl _, htl, htl1, by omega, hr1, by omega, hr2⟩, hB1⟩
end Go.Proofs.YtieompfmhnpnaaaGreat.H
namespace Go.Proofs.YtieompfmhnpnaaaGreat.H
open Go.RowKit Go.Proofs.YtieompfmhnpnaaaGreatW.PrintWords Go.Proofs.YtieompfmhnpnaaaGreatW.PrintLast Go.Proofs.YtieompfmhnpnaaaGreatW.PrintMore
set_option linter.unusedVariables false
set_option linter.unusedSimpArgs false
def escL (c : UInt8) : List UInt8 := if c = 34 then [92, 34] else if c = 92 then [92, 92] else [c]
def isEsc (c : UInt8) : Bool := c == 34 || c == 92
def cntE (l : List UInt8) : Nat := (l.filter isEsc).length
def escS (s : ByteArray) : ByteArray := mkB ((bl s).flatMap escL)
theorem escL_length (c : UInt8) : (escL c).length = 1 + (if isEsc c then 1 else 0) := by
  unfold escL isEsc
  by_cases h : c = 34
  · simp [h]
  · by_cases h2 : c = 92
    · simp [h2]
    · simp [h, h2]
theorem cntE_cons (c : UInt8) (l : List UInt8) : cntE (c :: l) = (if isEsc c then 1 else 0) + cntE l := by
  unfold cntE
  by_cases h : isEsc c = true
  · simp [h]; omega
  · simp [h]
theorem escL_flat (l : List UInt8) : (l.flatMap escL).length = l.length + cntE l := by
  induction l with
  | nil => rfl
  | cons c l ih => rw [List.flatMap_cons, List.length_append, ih, escL_length, cntE_cons, List.length_cons]; omega
theorem cntE_append (l m : List UInt8) : cntE (l ++ m) = cntE l + cntE m := by simp [cntE]
theorem cntE_le (l : List UInt8) : cntE l ≤ l.length := List.length_filter_le _ _
theorem cntE_two (l : List UInt8) : cntE l = l.count 92 + l.count 34 := by
  induction l with
  | nil => rfl
  | cons c l ih =>
    rw [cntE_cons, ih, List.count_cons, List.count_cons]
    unfold isEsc
    by_cases h : c = 34
    · subst h; simp; omega
    · by_cases h2 : c = 92
      · subst h2; simp; omega
      · simp [h, h2]
theorem cntE_zero {l : List UInt8} (h : cntE l = 0) : l.flatMap escL = l := by
  induction l with
  | nil => rfl
  | cons c l ih =>
    rw [cntE_cons] at h
    have h1 : isEsc c = false := by
      cases hc : isEsc c with
      | false => rfl
      | true => rw [hc] at h; simp at h
    rw [List.flatMap_cons, ih (by rw [h1] at h; simpa using h)]
    unfold escL isEsc at *
    simp at h1
    simp [h1.1, h1.2]
def escTo (s : ByteArray) (k : Nat) : List UInt8 := ((bl s).take k).flatMap escL
theorem escTo_succ (s : ByteArray) (k : Nat) (h : k < s.size) : escTo s (k + 1) = escTo s k ++ escL (byteAt s k) := by
  unfold escTo
  rw [take_byteAt s k h, List.flatMap_append]
  simp
theorem escTo_le (s : ByteArray) (k : Nat) : (escTo s k).length ≤ s.size + cntE (bl s) := by
  have h := escL_flat (bl s)
  rw [bl_length] at h
  have e : (bl s).flatMap escL = escTo s k ++ ((bl s).drop k).flatMap escL := by
    unfold escTo
    rw [← List.flatMap_append, List.take_append_drop]
  rw [e, List.length_append] at h
  omega
theorem escTo_all (s : ByteArray) : escTo s s.size = (bl s).flatMap escL := by
  unfold escTo
  rw [← bl_length, List.take_length]
def ints (l : List UInt8) : List Int := l.map fun c => (c.toNat : Int)
theorem ints_length (l : List UInt8) : (ints l).length = l.length := by simp [ints]
theorem ints_append (l m : List UInt8) : ints (l ++ m) = ints l ++ ints m := by simp [ints]
theorem ints_back (l : List UInt8) : strOfNums (ints l) = mkB l := byteInts_back l
def rowP (N : Nat) (pre : List Int) : List Int := pre ++ List.replicate (N - pre.length) 0
theorem rowP_length (N : Nat) (pre : List Int) (h : pre.length ≤ N) : (rowP N pre).length = N := by simp [rowP]; omega
theorem rowP_set (N : Nat) (pre : List Int) (v : Int) (h : pre.length < N) : (rowP N pre).set pre.length v = rowP N (pre ++ [v]) := by
  unfold rowP
  rw [List.set_append_right _ _ (Nat.le_refl _), Nat.sub_self]
  have e : N - pre.length = (N - (pre ++ [v]).length) + 1 := by simp; omega
  rw [e, List.replicate_succ]
  simp
theorem rowP_full (N : Nat) (pre : List Int) (h : pre.length = N) : rowP N pre = pre := by simp [rowP, h]
theorem rowP_nil (N : Nat) : rowP N [] = List.replicate N 0 := by simp [rowP]
set_option maxHeartbeats 1000000 in
set_option maxRecDepth 100000 in
theorem count_one (s : ByteArray) (c : UInt8) (w : World) :
    Calls Tryz.prog 160 #[.string s, .string ⟨#[c]⟩] w fun e w' => e = .returned (.int .i64 ((bl s).count c : Nat)) ∧ w' = w := by
  have k0 : ∀ hh : 0 < (⟨#[c]⟩ : ByteArray).size, (⟨#[c]⟩ : ByteArray)[0]'hh = c := fun _ => rfl
  have hc := c.toNat_lt
  have e1 : c.toNat.toUInt8 = c := by simp
  go_enter Tryz.func160, Tryz.ntmps160
  go_wp2_with fail
  rw [run_callFunc_extern Tryz.func162 (by kernel_rfl) (by kernel_rfl) (by kernel_rfl) (e := Extern.BytealgCount.count) (by kernel_rfl), Lib.run_countString]
  simp only [Result.andThen]
  rw [Oper.upon_value]
  go_wp2_with fail
  go_ret
  exact ⟨rfl, rfl⟩
theorem madeRow (W : World) (N : Nat) (hN : N ≤ maxLen) : RowB (W.alloc (.cells (madeCells #[.int .u8 0] N) 5)) W.heap.size N (rowP N []) := fun j hj => by
  have h := own_made (W := W) (base := 0) (e := 5) (k := .u8) N (Nat.zero_le _) hN
  have h1 := h.cellAt j (by omega)
  refine ⟨?_, h.frozenAt j⟩
  rw [h1, rowP_nil]
  simp [nums, List.getD, hj]
theorem make_bytes (W : World) (N : Nat) (hN : N ≤ 281474976710656) : (Instr.makeSlice 45 (.int .i64 (N : Int)) (.int .i64 (N : Int))).run Tryz.prog W = .ok (.slice (some ⟨W.heap.size, 0, none⟩) N N) (W.alloc (.cells (madeCells #[.int .u8 0] N) 5)) :=
  print_make 45 5 .u8 1 Tryz.underlying45 info5 (by decide) N (by omega) W
theorem run_neq_nil (w : World) (t e : TypeId) (a : Option Addr) (n c n' c' : Nat) (h : Tryz.prog.underlying t = some (.slice e)) :
    (binOp .neq t (.slice a n c) (.slice none n' c')).run Tryz.prog w = .ok (.bool (!a.isNone)) w := by
  simp only [binOp]
  simp [Op.equal, Op.maxDepth, Lib.run_equalIn_slice_nil w 9999 t e a n c n' c' h]
theorem copy_two (W : World) (g j N cap p c : Nat) (xs : List Int) (a b : Int) (hj : j + 2 ≤ N) (hg : RowB W g N xs) (hp : RowB W p 2 [a, b]) :
    (Builtin.copy_ #[45, 45] 3 #[.slice (some ⟨g, j, none⟩) (N - j) cap, .slice (some ⟨p, 0, none⟩) 2 c]).run Tryz.prog W =
      .ok (.int .i64 2) ((W.setCell ⟨g, j, none⟩ (.int .u8 a)).setCell ⟨g, j + 1, none⟩ (.int .u8 b)) := by
  have := run_copy_cells (P := Tryz.prog) W 45 45 3 5 g j (N - j) cap ⟨p, 0, none⟩ 2 c [.int .u8 a, .int .u8 b] Tryz.underlying45 (by kernel_rfl) (by have e : Nat.min 2 (N - j) = 2 := Nat.min_eq_left (by omega); rw [e]; rfl)
    (fun i v hv => by
      match i, hv with
      | 0, hv => simp at hv; subst hv; exact (hp 0 (by decide)).1
      | 1, hv => simp at hv; subst hv; exact (hp 1 (by decide)).1)
    (fun i hi => by simp at hi; rw [(hg (j + i) (by omega)).1]; rfl) (fun i hi => by simp at hi; exact (hg (j + i) (by omega)).2)
    (fun v hv => by simp at hv; rcases hv with rfl | rfl <;> rfl)
  exact this
set_option maxHeartbeats 1000000 in
set_option maxRecDepth 100000 in
theorem strReplace (B h : Nat) (s : ByteArray) (w : World) (hs : s.size ≤ 1099511627776) (hr : TabQ w B h) :
    Calls Tryz.prog 158 #[.pointer (some ⟨h, 0, none⟩), .string s] w fun e w' => e = .returned (.string (escS s)) ∧ Below w.heap.size w w' := by
  obtain ⟨t, p1, c1, p2, c2, hq, hrow, ht, t0, t1, hp1, hr1, hp2, hr2⟩ := hr
  have hle := cntE_le (bl s)
  rw [bl_length] at hle
  have e256 : w.cell? ⟨h, 256, none⟩ = some (.slice (some ⟨t, 0, none⟩) 2 2) := (hrow 256 (by decide)).1
  have e34 : w.cell? ⟨h, 34, none⟩ = some (.slice (some ⟨p2, 0, none⟩) 2 c2) := (hrow 34 (by decide)).1
  have e92 : w.cell? ⟨h, 92, none⟩ = some (.slice (some ⟨p1, 0, none⟩) 2 c1) := (hrow 92 (by decide)).1
  have qT : ∀ (w : World) (a : Option Addr) (n c n' c' : Nat), (binOp .neq 45 (.slice a n c) (.slice none n' c')).run Tryz.prog w = .ok (.bool (!a.isNone)) w := fun w a n c n' c' => run_neq_nil w 45 5 a n c n' c' Tryz.underlying45
  go_enter Tryz.func158, Tryz.ntmps158
  have hmx : Tryz.prog.follows .mixedOrders = true := by kernel_rfl
  have HLB := Lib.hid (bl_length s)
  have HTWO := Lib.hid (cntE_two (bl s))
  by_cases h16 : 16 ≤ s.size
  · have h16I : (16 : Int) ≤ (s.size : Int) := by omega
    go_wp2_with fail
    have h92' := List.count_le_length (a := (92 : UInt8)) (l := bl s)
    have h34' := List.count_le_length (a := (34 : UInt8)) (l := bl s)
    rw [HLB.out] at h92' h34'
    obtain ⟨n92, h92⟩ : ∃ n, (bl s).count 92 = n := ⟨_, rfl⟩
    obtain ⟨n34, h34⟩ : ∃ n, (bl s).count 34 = n := ⟨_, rfl⟩
    rw [h92] at h92'
    rw [h34] at h34'
    have htwo := HTWO.out
    rw [h92, h34] at htwo
    have HTW := Lib.hid htwo
    have H92 := Lib.hid h92
    have H34 := Lib.hid h34
    clear htwo h92 h34
    go_loopw [5, 6, 32] (fun n a i wr => ∃ (k c m : Nat), k ≤ 2 ∧ c = (if k = 0 then 0 else if k = 1 then n92 else n92 + n34) ∧ n = .int .i64 ((s.size + c : Nat) : Int) ∧ a = .bool (decide (0 < c)) ∧ i = .int .i64 (k : Int) ∧ wr = w.drewN m) (fun _ _ i _ => (2 - intOf i).toNat)
    case atStart => exact ⟨0, 0, 0, by omega, rfl, rfl, rfl, rfl, rfl⟩
    case round =>
      obtain ⟨k, c, m, hk, hc, rfl, rfl, rfl, rfl⟩ := hrel
      obtain rfl | rfl | rfl : k = 0 ∨ k = 1 ∨ k = 2 := by omega
      · obtain rfl : c = 0 := by simpa using hc
        clear hc hk
        simp only [Nat.add_zero]
        have k0 : ∀ hh : 0 < (⟨#[92]⟩ : ByteArray).size, (⟨#[92]⟩ : ByteArray)[0]'hh = 92 := fun _ => rfl
        by_cases z : n92 = 0
        · subst z
          go_wp2_with fail
          refine (count_one s 92 _).mono ?_
          rintro e w1 ⟨rfl, rfl⟩
          rw [H92.out]
          go_wp2_with fail
          go_roundw
          case rel => exact ⟨1, 0, m, by omega, rfl, rfl, rfl, rfl, rfl⟩
          case measure => simp [intOf]
        · have zI : ¬ ((n92 : Int) = 0) := by omega
          have zB : ((n92 : Int) != 0) = true := by simpa using z
          go_wp2_with fail
          refine (count_one s 92 _).mono ?_
          rintro e w1 ⟨rfl, rfl⟩
          rw [H92.out]
          go_wp2_with fail
          go_region
          go_wp2_with fail
          go_roundw
          case rel => exact ⟨1, n92, m + 1, by omega, rfl, by simp, by simp; omega, rfl, rfl⟩
          case measure => simp [intOf]
      · obtain rfl : c = n92 := by simpa using hc
        clear hc hk
        have k0 : ∀ hh : 0 < (⟨#[34]⟩ : ByteArray).size, (⟨#[34]⟩ : ByteArray)[0]'hh = 34 := fun _ => rfl
        by_cases z : n34 = 0
        · subst z
          go_wp2_with fail
          refine (count_one s 34 _).mono ?_
          rintro e w1 ⟨rfl, rfl⟩
          rw [H34.out]
          go_wp2_with fail
          go_roundw
          case rel => exact ⟨2, c, m, by omega, rfl, rfl, rfl, rfl, rfl⟩
          case measure => simp [intOf]
        · have zI : ¬ ((n34 : Int) = 0) := by omega
          have zB : ((n34 : Int) != 0) = true := by simpa using z
          go_wp2_with fail
          refine (count_one s 34 _).mono ?_
          rintro e w1 ⟨rfl, rfl⟩
          rw [H34.out]
          go_wp2_with fail
          go_region
          go_wp2_with fail
          go_roundw
          case rel => exact ⟨2, c + n34, m + 1, by omega, rfl, by simp; omega, by simp; omega, rfl, rfl⟩
          case measure => simp [intOf]
      · obtain rfl : c = n92 + n34 := by simpa using hc
        rw [← HTW.out]
        clear hc hk
        generalize hcn : cntE (bl s) = cnt at *
        by_cases z : cnt = 0
        · subst z
          have HE := Lib.hid (cntE_zero hcn)
          clear hcn
          go_wp2_with fail
          go_ret
          refine ⟨?_, pw_below_drewN (Below.refl _ w) m⟩
          have : escS s = s := by unfold escS; rw [HE.out]
          rw [this]
          rfl
        · have dz : decide (0 < cnt) = true := by simp; omega
          rw [dz]
          obtain ⟨N, hN⟩ : ∃ N, s.size + cnt = N := ⟨_, rfl⟩
          rw [hN]
          have hmk := fun W => make_bytes W N (by omega)
          have hNle : N ≤ 2199023255552 := by omega
          have HCN := Lib.hid hcn
          have HNN := Lib.hid hN
          clear z dz hcn hN
          go_wp2_with fail
          have hrow0 := madeRow (w.drewN m) N (by unfold maxLen; omega)
          have hB0 : Below w.heap.size w ((w.drewN m).alloc (.cells (madeCells #[.int .u8 0] N) 5)) := (pw_below_drewN (Below.refl _ w) m).alloc (Nat.le_refl _) _
          rw [show (w.drewN m).heap.size = w.heap.size from rfl] at hrow0
          go_loopw [13, 14] (fun jv i wr => ∃ k : Nat, k ≤ s.size ∧ i = .int .i64 (k : Int) ∧ jv = .int .i64 ((escTo s k).length : Int) ∧ RowB wr w.heap.size N (rowP N (ints (escTo s k))) ∧ Below w.heap.size w wr) (fun _ i _ => s.size - (intOf i).toNat)
          case atStart => exact ⟨0, Nat.zero_le _, rfl, rfl, hrow0, hB0⟩
          case round =>
            clear hrow0 hB0
            obtain ⟨k, hk, rfl, rfl, hrb, hB1⟩ := hrel
            by_cases hlt : k < s.size
            · have hle1 := escTo_le s (k + 1)
              rw [HCN.out, HNN.out, escTo_succ s k hlt] at hle1
              have HSU := Lib.hid (escTo_succ s k hlt)
              obtain ⟨l, hl⟩ : ∃ l, escTo s k = l := ⟨_, rfl⟩
              rw [hl] at HSU hle1 hrb ⊢
              clear hl
              obtain ⟨j, hj⟩ : ∃ j, l.length = j := ⟨_, rfl⟩
              rw [hj]
              have HJ := Lib.hid hj
              have hjl : (ints l).length = j := by rw [ints_length]; exact hj
              by_cases c34 : byteAt s k = 34
              · have he : escL (byteAt s k) = [92, 34] := by rw [c34]; rfl
                have HE := Lib.hid he
                rw [he, List.length_append, hj] at hle1
                have hj2 : j + 2 ≤ N := by simpa using hle1
                have hj3 : j < N := by omega
                have hk0 : ∀ hh, s[k]'hh = 34 := fun hh => (byteAt_get s k hh).trans c34
                have ec1 := pw_cell_below hB1 e34
                have hplt : p2 < w.heap.size := World.block_lt_of_cell? w ⟨p2, 0, none⟩ (hr2 0 (by decide)).1
                have hcp := copy_two wr w.heap.size j N (N - j) p2 c2 _ 92 34 hj2 hrb (hr2.below hB1 hplt)
                have hcp2 := copy_two wr.drew w.heap.size j N (N - j) p2 c2 _ 92 34 hj2 hrb (hr2.below hB1.drew hplt)
                have hset := hrb.set (rowP_length N _ (by omega)) j hj3 92
                rw [← hjl, rowP_set N _ _ (by omega), hjl] at hset
                have hl1 : (ints l ++ [92]).length = j + 1 := by rw [List.length_append, hjl]; rfl
                have hset2 := hset.set (rowP_length N _ (by omega)) (j + 1) (by omega) 34
                rw [← hl1, rowP_set N _ _ (by omega), hl1] at hset2
                clear hl1
                have HSET := Aside0.mk hset2
                clear he hset hset2 c34 hrb hj hjl hle1
                go_wp2_with fail
                go_region
                go_wp2_with fail
                refine ⟨⟨k + 1, by omega, by go_num, ?_, ?_, ((hB1.setCell (p := ⟨w.heap.size, j, none⟩) (Nat.le_refl _) _).setCell (p := ⟨w.heap.size, j + 1, none⟩) (Nat.le_refl _) _).drew⟩, by simp [intOf]; omega⟩
                · rw [HSU.out, HE.out, List.length_append, HJ.out]; go_num
                · rw [HSU.out, HE.out, ints_append]
                  have e : ints [92, 34] = [92, 34] := rfl
                  have h3 := HSET.out
                  rw [List.append_assoc] at h3
                  exact h3
              · by_cases c92 : byteAt s k = 92
                · have he : escL (byteAt s k) = [92, 92] := by rw [c92]; rfl
                  have HE := Lib.hid he
                  rw [he, List.length_append, hj] at hle1
                  have hj2 : j + 2 ≤ N := by simpa using hle1
                  have hj3 : j < N := by omega
                  have hk0 : ∀ hh, s[k]'hh = 92 := fun hh => (byteAt_get s k hh).trans c92
                  have ec1 := pw_cell_below hB1 e92
                  have hplt : p1 < w.heap.size := World.block_lt_of_cell? w ⟨p1, 0, none⟩ (hr1 0 (by decide)).1
                  have hcp := copy_two wr w.heap.size j N (N - j) p1 c1 _ 92 92 hj2 hrb (hr1.below hB1 hplt)
                  have hcp2 := copy_two wr.drew w.heap.size j N (N - j) p1 c1 _ 92 92 hj2 hrb (hr1.below hB1.drew hplt)
                  have hset := hrb.set (rowP_length N _ (by omega)) j hj3 92
                  rw [← hjl, rowP_set N _ _ (by omega), hjl] at hset
                  have hl1 : (ints l ++ [92]).length = j + 1 := by rw [List.length_append, hjl]; rfl
                  have hset2 := hset.set (rowP_length N _ (by omega)) (j + 1) (by omega) 92
                  rw [← hl1, rowP_set N _ _ (by omega), hl1] at hset2
                  clear hl1
                  have HSET := Aside0.mk hset2
                  clear he hset hset2 c92 hrb hj hjl hle1
                  go_wp2_with fail
                  go_region
                  go_wp2_with fail
                  refine ⟨⟨k + 1, by omega, by go_num, ?_, ?_, ((hB1.setCell (p := ⟨w.heap.size, j, none⟩) (Nat.le_refl _) _).setCell (p := ⟨w.heap.size, j + 1, none⟩) (Nat.le_refl _) _).drew⟩, by simp [intOf]; omega⟩
                  · rw [HSU.out, HE.out, List.length_append, HJ.out]; go_num
                  · rw [HSU.out, HE.out, ints_append]
                    have e : ints [92, 92] = [92, 92] := rfl
                    have h3 := HSET.out
                    rw [List.append_assoc] at h3
                    exact h3
                · have hb256 : (byteAt s k).toNat < 256 := (byteAt s k).toNat_lt
                  have n34 : (byteAt s k).toNat ≠ 34 := fun e => c34 (by rw [← UInt8.toNat_inj]; exact e)
                  have n92 : (byteAt s k).toNat ≠ 92 := fun e => c92 (by rw [← UInt8.toNat_inj]; exact e)
                  have ec := (hrow (byteAt s k).toNat (by omega)).1
                  have ef : fQ t 2 (.slice (some ⟨p1, 0, none⟩) 2 c1) (.slice (some ⟨p2, 0, none⟩) 2 c2) (byteAt s k).toNat = .slice none 0 0 := by
                    unfold fQ
                    rw [if_neg (by omega), if_neg n92, if_neg n34]
                  rw [ef] at ec
                  have ec1 := pw_cell_below hB1 ec
                  have he : escL (byteAt s k) = [byteAt s k] := by unfold escL; rw [if_neg c34, if_neg c92]
                  have HE := Lib.hid he
                  rw [he, List.length_append, hj] at hle1
                  have hj2 : j < N := by simp at hle1; omega
                  have hk0 : ∀ hh, s[k]'hh = byteAt s k := fun hh => byteAt_get s k hh
                  have ej := (hrb j hj2).1
                  have fj := (hrb j hj2).2
                  have hset := hrb.set (rowP_length N _ (by omega)) j hj2 ((byteAt s k).toNat : Int)
                  rw [← hjl, rowP_set N _ _ (by omega), hjl] at hset
                  have HSET := Aside0.mk hset
                  clear ef ec he hset n34 n92 c34 c92 hrb hj hjl hle1 e34 e92 e256
                  go_wp2_with fail
                  refine ⟨⟨k + 1, by omega, by go_num, ?_, ?_, hB1.setCell (p := ⟨w.heap.size, j, none⟩) (Nat.le_refl _) _⟩, by simp [intOf]; omega⟩
                  · rw [HSU.out, HE.out, List.length_append, HJ.out]; go_num
                  · rw [HSU.out, HE.out, ints_append]; exact HSET.out
            · obtain rfl : k = s.size := by omega
              have hf := escTo_le s s.size
              rw [HCN.out, HNN.out] at hf
              have hfl : (ints (escTo s s.size)).length = N := by
                rw [ints_length, escTo_all, escL_flat, HLB.out, HCN.out, HNN.out]
              have hc := run_convert_bytes_arg (P := Tryz.prog) wr 45 5 Tryz.underlying45 Tryz.underlying5 w.heap.size 0 N N _ (rowP_length N (ints (escTo s s.size)) (by omega)) (fun i hi => by rw [Nat.zero_add]; exact (hrb i hi).1) 9 Tryz.underlying9
              rw [rowP_full N _ hfl, ints_back, escTo_all] at hc
              clear hf hfl hrb
              go_wp2_with fail
              go_ret
              exact ⟨rfl, hB1⟩
  · have h16I : ¬ (16 : Int) ≤ (s.size : Int) := by omega
    have h16J : (s.size : Int) < 16 := by omega
    go_wp2_with fail
    go_loopw [5, 6, 10] (fun n a i wr => ∃ (k m : Nat), k ≤ s.size ∧ n = .int .i64 ((s.size + cntE ((bl s).take k) : Nat) : Int) ∧ a = .bool (decide (0 < cntE ((bl s).take k))) ∧ i = .int .i64 (k : Int) ∧ wr = w.drewN m) (fun _ _ i _ => s.size - (intOf i).toNat)
    case atStart => exact ⟨0, 0, by omega, rfl, rfl, rfl, rfl⟩
    case round =>
      obtain ⟨k, m, hk, rfl, rfl, rfl, rfl⟩ := hrel
      by_cases hlt : k < s.size
      · have hsu : cntE ((bl s).take (k + 1)) = cntE ((bl s).take k) + (if isEsc (byteAt s k) then 1 else 0) := by
          rw [take_byteAt s k hlt, cntE_append, cntE_cons]
          rfl
        have hCk := cntE_le ((bl s).take k)
        rw [List.length_take] at hCk
        obtain ⟨C, hC⟩ : ∃ C, cntE ((bl s).take k) = C := ⟨_, rfl⟩
        rw [hC] at hsu hCk ⊢
        have hCk2 : C ≤ k := by omega
        have HC := Lib.hid hC
        clear hC hCk
        by_cases c34 : byteAt s k = 34
        · have hk0 : ∀ hh, s[k]'hh = 34 := fun hh => (byteAt_get s k hh).trans c34
          have HS2 := Lib.hid (hsu.trans (show C + (if isEsc (byteAt s k) then 1 else 0) = C + 1 by rw [c34]; rfl))
          clear hsu c34
          go_wp2_with fail
          go_roundw
          case rel => exact ⟨k + 1, m, by omega, by rw [HS2.out]; go_num, by rw [HS2.out]; simp, by go_num, rfl⟩
          case measure => simp [intOf]; omega
        by_cases c92 : byteAt s k = 92
        · have hk0 : ∀ hh, s[k]'hh = 92 := fun hh => (byteAt_get s k hh).trans c92
          have HS2 := Lib.hid (hsu.trans (show C + (if isEsc (byteAt s k) then 1 else 0) = C + 1 by rw [c92]; rfl))
          clear hsu c92
          go_wp2_with fail
          go_roundw
          case rel => exact ⟨k + 1, m, by omega, by rw [HS2.out]; go_num, by rw [HS2.out]; simp, by go_num, rfl⟩
          case measure => simp [intOf]; omega
        have hb256 : (byteAt s k).toNat < 256 := (byteAt s k).toNat_lt
        have n34 : (byteAt s k).toNat ≠ 34 := fun e => c34 (by rw [← UInt8.toNat_inj]; exact e)
        have n92 : (byteAt s k).toNat ≠ 92 := fun e => c92 (by rw [← UInt8.toNat_inj]; exact e)
        have ec := (hrow (byteAt s k).toNat (by omega)).1
        have ef : fQ t 2 (.slice (some ⟨p1, 0, none⟩) 2 c1) (.slice (some ⟨p2, 0, none⟩) 2 c2) (byteAt s k).toNat = .slice none 0 0 := by
          unfold fQ
          rw [if_neg (by omega), if_neg n92, if_neg n34]
        rw [ef] at ec
        have hk0 : ∀ hh, s[k]'hh = byteAt s k := fun hh => byteAt_get s k hh
        have HS2 := Lib.hid (hsu.trans (show C + (if isEsc (byteAt s k) then 1 else 0) = C by
          have : isEsc (byteAt s k) = false := by unfold isEsc; simp [c34, c92]
          rw [this]; rfl))
        clear hsu c34 c92 n34 n92 ef e34 e92 e256
        go_wp2_with fail
        go_roundw
        case rel => exact ⟨k + 1, m, by omega, by rw [HS2.out], by rw [HS2.out], by go_num, rfl⟩
        case measure => simp [intOf]; omega
      · obtain rfl : k = s.size := by omega
        have htk : (bl s).take s.size = bl s := by rw [← HLB.out, List.take_length]
        rw [htk]
        clear htk
        generalize hcn : cntE (bl s) = cnt at *
        by_cases z : cnt = 0
        · subst z
          have HE := Lib.hid (cntE_zero hcn)
          clear hcn
          go_wp2_with fail
          go_ret
          refine ⟨?_, pw_below_drewN (Below.refl _ w) m⟩
          have : escS s = s := by unfold escS; rw [HE.out]
          rw [this]
          rfl
        · have dz : decide (0 < cnt) = true := by simp; omega
          rw [dz]
          obtain ⟨N, hN⟩ : ∃ N, s.size + cnt = N := ⟨_, rfl⟩
          rw [hN]
          have hmk := fun W => make_bytes W N (by omega)
          have hNle : N ≤ 2199023255552 := by omega
          have HCN := Lib.hid hcn
          have HNN := Lib.hid hN
          clear z dz hcn hN
          go_wp2_with fail
          have hrow0 := madeRow (w.drewN m) N (by unfold maxLen; omega)
          have hB0 : Below w.heap.size w ((w.drewN m).alloc (.cells (madeCells #[.int .u8 0] N) 5)) := (pw_below_drewN (Below.refl _ w) m).alloc (Nat.le_refl _) _
          rw [show (w.drewN m).heap.size = w.heap.size from rfl] at hrow0
          go_loopw [13, 14] (fun jv i wr => ∃ k : Nat, k ≤ s.size ∧ i = .int .i64 (k : Int) ∧ jv = .int .i64 ((escTo s k).length : Int) ∧ RowB wr w.heap.size N (rowP N (ints (escTo s k))) ∧ Below w.heap.size w wr) (fun _ i _ => s.size - (intOf i).toNat)
          case atStart => exact ⟨0, Nat.zero_le _, rfl, rfl, hrow0, hB0⟩
          case round =>
            clear hrow0 hB0
            obtain ⟨k, hk, rfl, rfl, hrb, hB1⟩ := hrel
            by_cases hlt : k < s.size
            · have hle1 := escTo_le s (k + 1)
              rw [HCN.out, HNN.out, escTo_succ s k hlt] at hle1
              have HSU := Lib.hid (escTo_succ s k hlt)
              obtain ⟨l, hl⟩ : ∃ l, escTo s k = l := ⟨_, rfl⟩
              rw [hl] at HSU hle1 hrb ⊢
              clear hl
              obtain ⟨j, hj⟩ : ∃ j, l.length = j := ⟨_, rfl⟩
              rw [hj]
              have HJ := Lib.hid hj
              have hjl : (ints l).length = j := by rw [ints_length]; exact hj
              by_cases c34 : byteAt s k = 34
              · have he : escL (byteAt s k) = [92, 34] := by rw [c34]; rfl
                have HE := Lib.hid he
                rw [he, List.length_append, hj] at hle1
                have hj2 : j + 2 ≤ N := by simpa using hle1
                have hj3 : j < N := by omega
                have hk0 : ∀ hh, s[k]'hh = 34 := fun hh => (byteAt_get s k hh).trans c34
                have ec1 := pw_cell_below hB1 e34
                have hplt : p2 < w.heap.size := World.block_lt_of_cell? w ⟨p2, 0, none⟩ (hr2 0 (by decide)).1
                have hcp := copy_two wr w.heap.size j N (N - j) p2 c2 _ 92 34 hj2 hrb (hr2.below hB1 hplt)
                have hcp2 := copy_two wr.drew w.heap.size j N (N - j) p2 c2 _ 92 34 hj2 hrb (hr2.below hB1.drew hplt)
                have hset := hrb.set (rowP_length N _ (by omega)) j hj3 92
                rw [← hjl, rowP_set N _ _ (by omega), hjl] at hset
                have hl1 : (ints l ++ [92]).length = j + 1 := by rw [List.length_append, hjl]; rfl
                have hset2 := hset.set (rowP_length N _ (by omega)) (j + 1) (by omega) 34
                rw [← hl1, rowP_set N _ _ (by omega), hl1] at hset2
                clear hl1
                have HSET := Aside0.mk hset2
                clear he hset hset2 c34 hrb hj hjl hle1
                go_wp2_with fail
                go_region
                go_wp2_with fail
                refine ⟨⟨k + 1, by omega, by go_num, ?_, ?_, ((hB1.setCell (p := ⟨w.heap.size, j, none⟩) (Nat.le_refl _) _).setCell (p := ⟨w.heap.size, j + 1, none⟩) (Nat.le_refl _) _).drew⟩, by simp [intOf]; omega⟩
                · rw [HSU.out, HE.out, List.length_append, HJ.out]; go_num
                · rw [HSU.out, HE.out, ints_append]
                  have e : ints [92, 34] = [92, 34] := rfl
                  have h3 := HSET.out
                  rw [List.append_assoc] at h3
                  exact h3
              · by_cases c92 : byteAt s k = 92
                · have he : escL (byteAt s k) = [92, 92] := by rw [c92]; rfl
                  have HE := Lib.hid he
                  rw [he, List.length_append, hj] at hle1
                  have hj2 : j + 2 ≤ N := by simpa using hle1
                  have hj3 : j < N := by omega
                  have hk0 : ∀ hh, s[k]'hh = 92 := fun hh => (byteAt_get s k hh).trans c92
                  have ec1 := pw_cell_below hB1 e92
                  have hplt : p1 < w.heap.size := World.block_lt_of_cell? w ⟨p1, 0, none⟩ (hr1 0 (by decide)).1
                  have hcp := copy_two wr w.heap.size j N (N - j) p1 c1 _ 92 92 hj2 hrb (hr1.below hB1 hplt)
                  have hcp2 := copy_two wr.drew w.heap.size j N (N - j) p1 c1 _ 92 92 hj2 hrb (hr1.below hB1.drew hplt)
                  have hset := hrb.set (rowP_length N _ (by omega)) j hj3 92
                  rw [← hjl, rowP_set N _ _ (by omega), hjl] at hset
                  have hl1 : (ints l ++ [92]).length = j + 1 := by rw [List.length_append, hjl]; rfl
                  have hset2 := hset.set (rowP_length N _ (by omega)) (j + 1) (by omega) 92
                  rw [← hl1, rowP_set N _ _ (by omega), hl1] at hset2
                  clear hl1
                  have HSET := Aside0.mk hset2
                  clear he hset hset2 c92 hrb hj hjl hle1
                  go_wp2_with fail
                  go_region
                  go_wp2_with fail
                  refine ⟨⟨k + 1, by omega, by go_num, ?_, ?_, ((hB1.setCell (p := ⟨w.heap.size, j, none⟩) (Nat.le_refl _) _).setCell (p := ⟨w.heap.size, j + 1, none⟩) (Nat.le_refl _) _).drew⟩, by simp [intOf]; omega⟩
                  · rw [HSU.out, HE.out, List.length_append, HJ.out]; go_num
                  · rw [HSU.out, HE.out, ints_append]
                    have e : ints [92, 92] = [92, 92] := rfl
                    have h3 := HSET.out
                    rw [List.append_assoc] at h3
                    exact h3
                · have hb256 : (byteAt s k).toNat < 256 := (byteAt s k).toNat_lt
                  have n34 : (byteAt s k).toNat ≠ 34 := fun e => c34 (by rw [← UInt8.toNat_inj]; exact e)
                  have n92 : (byteAt s k).toNat ≠ 92 := fun e => c92 (by rw [← UInt8.toNat_inj]; exact e)
                  have ec := (hrow (byteAt s k).toNat (by omega)).1
                  have ef : fQ t 2 (.slice (some ⟨p1, 0, none⟩) 2 c1) (.slice (some ⟨p2, 0, none⟩) 2 c2) (byteAt s k).toNat = .slice none 0 0 := by
                    unfold fQ
                    rw [if_neg (by omega), if_neg n92, if_neg n34]
                  rw [ef] at ec
                  have ec1 := pw_cell_below hB1 ec
                  have he : escL (byteAt s k) = [byteAt s k] := by unfold escL; rw [if_neg c34, if_neg c92]
                  have HE := Lib.hid he
                  rw [he, List.length_append, hj] at hle1
                  have hj2 : j < N := by simp at hle1; omega
                  have hk0 : ∀ hh, s[k]'hh = byteAt s k := fun hh => byteAt_get s k hh
                  have ej := (hrb j hj2).1
                  have fj := (hrb j hj2).2
                  have hset := hrb.set (rowP_length N _ (by omega)) j hj2 ((byteAt s k).toNat : Int)
                  rw [← hjl, rowP_set N _ _ (by omega), hjl] at hset
                  have HSET := Aside0.mk hset
                  clear ef ec he hset n34 n92 c34 c92 hrb hj hjl hle1 e34 e92 e256
                  go_wp2_with fail
                  refine ⟨⟨k + 1, by omega, by go_num, ?_, ?_, hB1.setCell (p := ⟨w.heap.size, j, none⟩) (Nat.le_refl _) _⟩, by simp [intOf]; omega⟩
                  · rw [HSU.out, HE.out, List.length_append, HJ.out]; go_num
                  · rw [HSU.out, HE.out, ints_append]; exact HSET.out
            · obtain rfl : k = s.size := by omega
              have hf := escTo_le s s.size
              rw [HCN.out, HNN.out] at hf
              have hfl : (ints (escTo s s.size)).length = N := by
                rw [ints_length, escTo_all, escL_flat, HLB.out, HCN.out, HNN.out]
              have hc := run_convert_bytes_arg (P := Tryz.prog) wr 45 5 Tryz.underlying45 Tryz.underlying5 w.heap.size 0 N N _ (rowP_length N (ints (escTo s s.size)) (by omega)) (fun i hi => by rw [Nat.zero_add]; exact (hrb i hi).1) 9 Tryz.underlying9
              rw [rowP_full N _ hfl, ints_back, escTo_all] at hc
              clear hf hfl hrb
              go_wp2_with fail
              go_ret
              exact ⟨rfl, hB1⟩
end Go.Proofs.YtieompfmhnpnaaaGreat.H
namespace Go.Proofs.YtieompfmhnpnaaaGreat.H
open Go.RowKit Go.Proofs.YtieompfmhnpnaaaGreatW.PrintWords Go.Proofs.YtieompfmhnpnaaaGreatW.PrintLast Go.Proofs.YtieompfmhnpnaaaGreatW.PrintMore
set_option linter.unusedVariables false
set_option linter.unusedSimpArgs false
theorem TabQ.far {W : World} {B q g : Nat} (h : TabQ W B q) (hg : g < B) (j : Nat) (v : Value) : TabQ (W.setCell ⟨g, j, none⟩ v) B q := by
  obtain ⟨t, p1, c1, p2, c2, hq, hrow, ht, t0, t1, hp1, hr1, hp2, hr2⟩ := h
  have f : ∀ (b i : Nat), B ≤ b → (W.setCell ⟨g, j, none⟩ v).cell? ⟨b, i, none⟩ = W.cell? ⟨b, i, none⟩ := fun b i hb => World.cell?_setCell_far W ⟨g, j, none⟩ ⟨b, i, none⟩ v (show g ≠ b by omega)
  exact ⟨t, p1, c1, p2, c2, hq, hrow.far (by omega) j v, ht, (f t 0 ht).trans t0, (f t 1 ht).trans t1, hp1, hr1.far (by omega) j v, hp2, hr2.far (by omega) j v⟩
def TabledQ (B g : Nat) (w0 w : World) : Prop := ∃ h D, g < D ∧ w.cell? ⟨g, 3, none⟩ = some (.iface 133 (.pointer (some ⟨h, 0, none⟩))) ∧ TabQ w D h ∧ Below B w0 w
set_option maxRecDepth 100000 in
set_option maxHeartbeats 1000000 in
theorem buildOnce_strings (B g : Nat) (w : World) (hr : NewRep B w g 1 ⟨#[34]⟩ ⟨#[92, 34]⟩ ⟨#[92]⟩ ⟨#[92, 92]⟩) :
    Calls Tryz.prog 81 #[.pointer (some ⟨g, 0, none⟩)] w fun e w' => e = .returned (.tuple #[]) ∧ Held w' g ∧ TabledQ B g w w' := by
  have HR := Aside0.mk hr
  have hge := hr.ge
  have hlt : g < w.heap.size := World.block_lt_of_cell? w ⟨g, 0, none⟩ hr.done
  go_enter Tryz.func81, Tryz.ntmps81
  go_wp2_with fail
  refine (build_strings B g 1 w HR.out).mono ?_
  rintro e w1 ⟨h, rfl, hrow, hb⟩
  have d0 := pw_cell_below hb HR.out.done
  have d1 := pw_cell_below hb HR.out.state
  have d3 := pw_cell_below hb HR.out.r
  obtain ⟨k, cap, -, -, d4', -⟩ := HR.out.row
  have d4 := pw_cell_below hb d4'
  clear d4'
  have fz : ∀ j, w1.frozen? ⟨g, j, none⟩ = false := fun j => (hb.frozen (p := ⟨g, j, none⟩) hlt).trans (HR.out.fz j)
  have f3 := fz 3
  have f4 := fz 4
  have HROW := Aside0.mk hrow
  have HB := Aside0.mk hb
  have FZ := Aside0.mk fz
  clear hrow hb fz hr
  go_wp2_with fail
  go_end0
  have hBw : Below B w w1 := HB.out.mono (by omega)
  refine ⟨rfl, ⟨?_, ?_, ?_, ?_⟩, h, w.heap.size, hlt, ?_, ?_, (hBw.setCell (p := ⟨g, 3, none⟩) hge _).setCell (p := ⟨g, 4, none⟩) hge _⟩
  · exact (World.cell?_setCell_other _ ⟨g, 4, none⟩ ⟨g, 0, none⟩ _ (by simp)).trans ((World.cell?_setCell_other _ ⟨g, 3, none⟩ ⟨g, 0, none⟩ _ (by simp)).trans d0)
  · exact (World.cell?_setCell_other _ ⟨g, 4, none⟩ ⟨g, 1, none⟩ _ (by simp)).trans ((World.cell?_setCell_other _ ⟨g, 3, none⟩ ⟨g, 1, none⟩ _ (by simp)).trans d1)
  · rw [World.frozen?_setCell, World.frozen?_setCell]; exact FZ.out 0
  · rw [World.frozen?_setCell, World.frozen?_setCell]; exact FZ.out 1
  · exact (World.cell?_setCell_other _ ⟨g, 4, none⟩ ⟨g, 3, none⟩ _ (by simp)).trans (World.cell?_setCell_same _ _ _ d3)
  · exact (HROW.out.far hlt 3 _).far hlt 4 _
theorem method133 (a : Addr) (w : World) : (method 290 133 (.pointer (some a)) "Replace").run Tryz.prog w = .ok (158, .pointer (some a)) w := by kernel_rfl
set_option maxRecDepth 100000 in
set_option maxHeartbeats 1000000 in
theorem replace_strings (B g : Nat) (s : ByteArray) (w : World) (hs : s.size ≤ 1099511627776) (hB : B ≤ w.heap.size) (hr : NewRep B w g 0 ⟨#[34]⟩ ⟨#[92, 34]⟩ ⟨#[92]⟩ ⟨#[92, 92]⟩) :
    Calls Tryz.prog 53 #[.pointer (some ⟨g, 0, none⟩), .string s] w fun e w' => e = .returned (.string (escS s)) ∧ Below B w w' := by
  have hge := hr.ge
  have hlock := hr.locked 1
  have hfn := buildOnce_strings B g _ hlock
  have hfresh : Fresh w g := ⟨hr.done, hr.state, hr.fz 0, hr.fz 1⟩
  have HFN := Aside0.mk hfn
  clear hfn hlock hr
  go_enter Tryz.func53, Tryz.ntmps53
  go_wp2_with fail
  refine (do_first g w hfresh _ HFN.out).mono ?_
  rintro e w1 ⟨rfl, w2, ⟨h, D, hD, hc3, hrow, hb⟩, hw⟩
  have e3 : w1.cell? ⟨g, 3, none⟩ = some (.iface 133 (.pointer (some ⟨h, 0, none⟩))) := by
    rw [hw]
    exact (World.cell?_setCell_other _ ⟨g, 1, none⟩ ⟨g, 3, none⟩ _ (by simp)).trans ((World.cell?_setCell_other _ ⟨g, 0, none⟩ ⟨g, 3, none⟩ _ (by simp)).trans hc3)
  have hrow1 : TabQ w1 D h := by
    rw [hw]
    exact (TabQ.far (W := w2.drew) hrow hD 0 _).far hD 1 _
  have hb1 : Below B w w1 := by
    rw [hw]
    exact (((((Below.refl B w).setCell (p := ⟨g, 1, none⟩) hge _).trans hb).drew).setCell (p := ⟨g, 0, none⟩) hge _).setCell (p := ⟨g, 1, none⟩) hge _
  clear hw hrow hb hc3
  have HROW := Aside0.mk hrow1
  have HB := Aside0.mk hb1
  clear hrow1 hb1
  have hm := method133
  go_wp2_with fail
  refine (strReplace D h s w1 hs HROW.out).mono ?_
  rintro e w3 ⟨rfl, hb3⟩
  have HB3 := Aside0.mk hb3
  clear hb3
  go_wp2_with fail
  go_ret
  exact ⟨rfl, HB.out.trans (HB3.out.mono (by have := HB.out.size; omega))⟩
end Go.Proofs.YtieompfmhnpnaaaGreat.H
end
section
namespace Go.Proofs.YtieompfmhnpnaaaGreat.H
open Go.RowKit Go.Proofs.YtieompfmhnpnaaaGreatW.PrintWords Go.Proofs.YtieompfmhnpnaaaGreatW.PrintLast Go.Proofs.YtieompfmhnpnaaaGreatW.PrintMore
set_option linter.unusedVariables false
set_option linter.unusedSimpArgs false
def valL (v : ByteArray) : List UInt8 := if isTokenB v then bl v else [34] ++ bl (escS v) ++ [34]
def paramL (p : S25) : List UInt8 := if isTokenB p.f0 then ([59, 32] ++ bl p.f0 ++ [61]) ++ valL p.f1 else []
def quoteL (main : ByteArray) (l : List S25) : List UInt8 := bl main ++ l.flatMap paramL
def psum (l : List S25) : Nat := (l.map fun f => 4 * (f.f0.size + f.f1.size) + 16).sum
theorem escS_size (s : ByteArray) : (escS s).size ≤ 2 * s.size := by
  unfold escS
  rw [mkB_size, escL_flat]
  have := cntE_le (bl s)
  rw [bl_length] at *
  omega
theorem paramL_length (p : S25) : (paramL p).length ≤ 4 * (p.f0.size + p.f1.size) + 16 := by
  unfold paramL valL
  have := escS_size p.f1
  split
  · split
    · simp only [List.length_append, bl_length, List.length_cons, List.length_nil]; omega
    · simp only [List.length_append, bl_length, List.length_cons, List.length_nil]; omega
  · simp
theorem psum_cons (x : S25) (l : List S25) : psum (x :: l) = 4 * (x.f0.size + x.f1.size) + 16 + psum l := by simp [psum]
theorem psum_len (l : List S25) : 16 * l.length ≤ psum l := by
  induction l with
  | nil => simp
  | cons x l ih => rw [psum_cons, List.length_cons]; omega
theorem psum_at (l : List S25) (k : Nat) (h : k < l.length) : 4 * ((rd_T25 l (k : Int)).f0.size + (rd_T25 l (k : Int)).f1.size) + 16 ≤ psum l := by
  have e : rd_T25 l (k : Int) = l[k] := by simp [rd_T25, List.getD, h]
  rw [e]
  unfold psum
  have : 4 * (l[k].f0.size + l[k].f1.size) + 16 ∈ l.map (fun f => 4 * (f.f0.size + f.f1.size) + 16) := List.mem_map.2 ⟨l[k], List.getElem_mem h, rfl⟩
  exact le_sum this
theorem quoteL_take (m : ByteArray) (l : List S25) (k : Nat) (h : k < l.length) : quoteL m (l.take (k + 1)) = quoteL m (l.take k) ++ paramL (rd_T25 l (k : Int)) := by
  have e : rd_T25 l (k : Int) = l[k] := by simp [rd_T25, List.getD, h]
  rw [e, List.take_succ_eq_append_getElem h]
  unfold quoteL
  rw [List.flatMap_append]
  simp only [List.flatMap_cons, List.flatMap_nil, List.append_nil, List.append_assoc]
theorem quoteL_length (m : ByteArray) (l : List S25) : (quoteL m l).length ≤ m.size + psum l := by
  unfold quoteL
  rw [List.length_append, bl_length]
  have : (l.flatMap paramL).length ≤ psum l := by
    induction l with
    | nil => simp
    | cons x l ih =>
      have := paramL_length x
      rw [psum_cons, List.flatMap_cons, List.length_append]
      omega
  omega
theorem psum_take (l : List S25) (k : Nat) : psum (l.take k) ≤ psum l := by
  unfold psum
  have : l = l.take k ++ l.drop k := (List.take_append_drop k l).symm
  conv => rhs; rw [this]
  rw [List.map_append, List.sum_append]
  omega
theorem Bld.lt {B bb : Nat} {l : List UInt8} {a : World} (h : Bld B bb l a) : bb < a.heap.size := by
  rcases h with ⟨_, v, h2, _⟩ | ⟨_, v, h2, _⟩ <;> exact (Array.getElem?_eq_some_iff.1 h2).1
theorem sq_of {w : World} {fb : Nat} {a v : Value} (h : w.heap[fb]? = some (.cells #[a, v] 25 (0, 0))) : w.heap[fb]? = some (.cells #[a, v] 25 (0, 0)) ∧ w.cell? ⟨fb, 1, none⟩ = some v := ⟨h, by simp [World.cell?, h]⟩
theorem sqB {w w' : World} {B fb : Nat} {a v : Value} (hf : fb < B) (hb : Below B w w') (h : w.heap[fb]? = some (.cells #[a, v] 25 (0, 0)) ∧ w.cell? ⟨fb, 1, none⟩ = some v) : w'.heap[fb]? = some (.cells #[a, v] 25 (0, 0)) ∧ w'.cell? ⟨fb, 1, none⟩ = some v :=
  sq_of ((hb.block fb hf).trans h.1)
theorem sqK {w w' : World} {B bb fb : Nat} {a v : Value} (hne : fb ≠ bb) (hb : BKept B bb w w') (h : w.heap[fb]? = some (.cells #[a, v] 25 (0, 0)) ∧ w.cell? ⟨fb, 1, none⟩ = some v) : w'.heap[fb]? = some (.cells #[a, v] 25 (0, 0)) ∧ w'.cell? ⟨fb, 1, none⟩ = some v :=
  sq_of (hb.others fb _ h.1 (fun e => by injection e with e; exact hne e) (by intro c fz h; cases h))
theorem sqA {w : World} {fb : Nat} {a v : Value} (h : w.heap[fb]? = some (.cells #[a, v] 25 (0, 0)) ∧ w.cell? ⟨fb, 1, none⟩ = some v) (o : Obj) : (w.alloc o).heap[fb]? = some (.cells #[a, v] 25 (0, 0)) ∧ (w.alloc o).cell? ⟨fb, 1, none⟩ = some v :=
  sq_of ((Lib.alloc_old w o fb (Array.getElem?_eq_some_iff.1 h.1).1).trans h.1)
theorem sqD {w : World} {fb : Nat} {a v : Value} (h : w.heap[fb]? = some (.cells #[a, v] 25 (0, 0)) ∧ w.cell? ⟨fb, 1, none⟩ = some v) : w.drew.heap[fb]? = some (.cells #[a, v] 25 (0, 0)) ∧ w.drew.cell? ⟨fb, 1, none⟩ = some v := h
set_option maxHeartbeats 4000000 in
set_option maxRecDepth 100000 in
theorem quote_calls (m : ByteArray) (A0 : Option Addr) (c0 : Nat) (l0 : List S25) (w : World) (hr0 : Kd.C k25 w A0 l0.length l0) (hc0 : l0.length ≤ c0) (hs : m.size + psum l0 ≤ 137438953472) :
    Calls Tryz.prog 16 #[.string m, .slice A0 l0.length c0] w fun e w' => e = .returned (.string (mkB (quoteL m l0))) ∧ Below w.heap.size w w' := by
  have hu25 := Tryz.underlying25
  have HR0 := Aside0.mk hr0
  clear hr0
  go_enter Tryz.func16, Tryz.ntmps16
  go_wp2_with fail
  obtain ⟨W, hW⟩ : ∃ W, W = w.alloc (Obj.cells #[Value.pointer none, Value.slice none 0 0] 66) := ⟨_, rfl⟩
  have hb0 : Bld w.heap.size w.heap.size [] W := by
    rw [hW]
    rcases Lib.fresh_isBuilder 66 5 w with h | h
    · exact .inl (Lib.BuilderAtF.of h)
    · exact .inr (Lib.BuilderAtF.of h)
  have hB0 : Below w.heap.size w W := by rw [hW]; exact (Below.refl _ _).alloc (Nat.le_refl _) _
  rw [← hW]
  clear hW
  refine (wstr w.heap.size w.heap.size [] m W hb0 (by simp; omega) hB0.size).mono ?_
  rintro e w1 ⟨rfl, hb1, hk1⟩
  have hB1 := hB0.trans hk1.below
  have HB1 := Aside0.mk hb1
  clear hb0 hB0 hb1 hk1
  go_wp2_with fail
  go_loopw [12] (fun v wr => ∃ k : Nat, k ≤ l0.length ∧ v = .int .i64 k ∧ Aside0 (Bld w.heap.size w.heap.size (quoteL m (l0.take k)) wr) ∧ Aside0 (Below w.heap.size w wr)) (fun v _ => l0.length - (intOf v).toNat)
  case atStart => exact ⟨0, Nat.zero_le _, rfl, ⟨by simpa [quoteL, bl] using HB1.out⟩, ⟨hB1⟩⟩
  case round =>
    clear HB1 hB1
    obtain ⟨k, hk, rfl, hbl, hbel⟩ := hrel
    by_cases hlt : k < l0.length
    · obtain ⟨ad, rfl, hx0, hx1⟩ := at_T25 HR0.out (k : Int) (by omega) (by omega)
      obtain ⟨x, hx⟩ : ∃ x, x = rd_T25 l0 (k : Int) := ⟨_, rfl⟩
      rw [← hx] at hx0 hx1
      replace hx0 := (hbel.out.cell (World.block_lt_of_cell? w _ hx0)).trans hx0
      replace hx1 := (hbel.out.cell (World.block_lt_of_cell? w _ hx1)).trans hx1
      simp only [Int.toNat_natCast] at hx0 hx1
      have hsum := psum_at l0 k hlt
      rw [← hx] at hsum
      have hlen := psum_len l0
      have hout := quoteL_length m (l0.take k)
      have hout2 := psum_take l0 k
      have hnext := quoteL_take m l0 k hlt
      rw [← hx] at hnext
      have HX := Lib.hid hx
      have HN := Lib.hid hnext
      clear hx hnext
      obtain ⟨kn, hkn⟩ := (isToken_ev x.f0 (by omega)).rounds
      obtain ⟨kv, hkv⟩ := (isToken_ev x.f1 (by omega)).rounds
      have HKN := Aside0.mk hkn
      have HKV := Aside0.mk hkv
      clear hkn hkv
      have hBsz := hbel.out.size
      obtain ⟨fb, hfb⟩ : ∃ fb, fb = wr.heap.size := ⟨_, rfl⟩
      obtain ⟨w1, hw1⟩ : ∃ w1, w1 = wr.alloc (.cells #[.string x.f0, .string x.f1] 25) := ⟨_, rfl⟩
      have hb1 : Below wr.heap.size wr w1 := by rw [hw1]; exact (Below.refl _ _).alloc (Nat.le_refl _) _
      have hc0' : w1.cell? ⟨fb, 0, none⟩ = some (.string x.f0) := by rw [hw1, hfb]; simp
      have hc1' : w1.cell? ⟨fb, 1, none⟩ = some (.string x.f1) := by rw [hw1, hfb]; simp
      have hx25 : w1.heap[fb]? = some (.cells #[.string x.f0, .string x.f1] 25 (0, 0)) := by rw [hw1, hfb]; exact heap_alloc_new _ _
      have hlt1 : fb < w1.heap.size := by rw [hw1, hfb, World.size_alloc]; omega
      have HB1 := Aside0.mk hb1
      have HW1 := Aside0.mk hw1
      have HFB := Aside0.mk hfb
      have HX25 := Aside0.mk hx25
      clear hb1 hw1 hfb hx25
      by_cases hnm : isTokenB x.f0 = true
      · rw [hnm] at HKN
        have HNM := Lib.hid hnm
        clear hnm
        go_wp2_with fail
        rw [← HW1.out, ← HFB.out]
        refine (header_isToken.calls kn _ _ _ HKN.out).mono ?_
        rintro e w2 ⟨rfl, ⟨n, rfl⟩⟩
        go_wp2_with fail
        obtain ⟨hd, hhd⟩ : ∃ hd : ByteArray, (⟨#[59, 32]⟩ : ByteArray) ++ x.f0 ++ ⟨#[61]⟩ = hd := ⟨_, rfl⟩
        have hhs : hd.size = x.f0.size + 3 := by rw [← hhd, ByteArray.size_append, ByteArray.size_append, show (⟨#[59, 32]⟩ : ByteArray).size = 2 from rfl, show (⟨#[61]⟩ : ByteArray).size = 1 from rfl]; omega
        have hhb : hd.data.toList = [59, 32] ++ bl x.f0 ++ [61] := by
          rw [← hhd]
          show bl ((⟨#[59, 32]⟩ : ByteArray) ++ x.f0 ++ ⟨#[61]⟩) = _
          rw [bl_append, bl_append]
        rw [hhd]
        have HHB := Lib.hid hhb
        clear hhd hhb
        have hbld1 := (hbl.out.keep HB1.out).keep (pw_below_drewN (Below.refl _ _) n)
        refine (wstr w.heap.size w.heap.size _ hd _ hbld1 (by omega) (Nat.le_trans hBsz HB1.out.size)).mono ?_
        rintro e w3 ⟨rfl, hb3, hk3⟩
        have hnb : fb ≠ w.heap.size := by have := HFB.out; have := Bld.lt hbl.out; omega
        have hx3 : w3.heap[fb]? = some (.cells #[.string x.f0, .string x.f1] 25 (0, 0)) := hk3.others fb _ HX25.out (fun e => by injection e with e; have := HFB.out; have := Bld.lt hbl.out; omega) (by intro c fz h; cases h)
        have hs3 : fb < w3.heap.size := (Array.getElem?_eq_some_iff.1 hx3).1
        have c3 : w3.cell? ⟨fb, 1, none⟩ = some (.string x.f1) := by simp [World.cell?, hx3]
        have hbw3 : Below w.heap.size w w3 := (pw_below_drewN (hbel.out.trans (HB1.out.mono hBsz)) n).trans hk3.below
        rw [HHB.out] at hb3
        have hb3s := hbw3.size
        have HBW3 := Aside0.mk hbw3
        have HBL3 := Aside0.mk hb3
        clear hbw3 hb3 hk3 hbld1
        go_wp2_with fail
        refine (header_isToken.calls kv _ _ _ HKV.out).mono ?_
        rintro e w4 ⟨rfl, ⟨n4, rfl⟩⟩
        by_cases hv : isTokenB x.f1 = true
        · rw [hv]
          have HV := Lib.hid hv
          clear hv
          go_wp2_with fail
          refine (wstr w.heap.size w.heap.size _ x.f1 _ (HBL3.out.keep (pw_below_drewN (Below.refl _ _) n4)) (by simp; omega) hb3s).mono ?_
          rintro e w5 ⟨rfl, hb5, hk5⟩
          have HB5 := Aside0.mk hb5
          have HK5 := Aside0.mk hk5
          clear hb5 hk5
          go_wp2_with fail
          go_roundw
          case rel =>
            refine ⟨k + 1, by omega, by go_num, ⟨?_⟩, ⟨(pw_below_drewN HBW3.out n4).trans HK5.out.below⟩⟩
            rw [HN.out]
            have : paramL x = [59, 32] ++ bl x.f0 ++ [61] ++ bl x.f1 := by unfold paramL valL; rw [HNM.out, HV.out]; rfl
            rw [this, ← List.append_assoc]
            exact HB5.out
          case measure => simp [intOf]; omega
        · have hv' : isTokenB x.f1 = false := by simpa using hv
          rw [hv']
          have HV := Lib.hid hv'
          clear hv hv'
          go_wp2_with fail
          obtain ⟨W0, hW0⟩ : ∃ W0, W0 = w3.drewN n4 := ⟨_, rfl⟩
          have hbW := HBL3.out.keep (pw_below_drewN (Below.refl w3.heap.size w3) n4)
          have hlW : fb < W0.heap.size := by rw [hW0]; exact hs3
          have hsW : w.heap.size ≤ W0.heap.size := by rw [hW0]; exact hb3s
          have hS : W0.heap[fb]? = some (.cells #[.string x.f0, .string x.f1] 25 (0, 0)) ∧ W0.cell? ⟨fb, 1, none⟩ = some (.string x.f1) := by rw [hW0]; exact sq_of hx3
          have z34 : (⟨#[34]⟩ : ByteArray).size = 1 := rfl
          rw [← hW0] at hbW ⊢
          have HBW := Aside0.mk hbW
          have HW0 := Aside0.mk hW0
          clear hbW hW0 c3
          have hesz := escS_size x.f1
          obtain ⟨es, hes⟩ : ∃ es, escS x.f1 = es := ⟨_, rfl⟩
          rw [hes] at hesz
          have hf1 : (9223372036854775807 < 1 + es.size) = False := eq_false (by omega)
          have hf2 : (9223372036854775807 < 1 + es.size + 1) = False := eq_false (by omega)
          go_region_held3 (fun w' => w'.heap[fb]? = some (.cells #[.string x.f0, .string x.f1] 25 (0, 0)) ∧ w'.cell? ⟨fb, 1, none⟩ = some (.string x.f1)) (first | (exact sqD hS) | (exact sqD (sqA hS _)) | (exact sqA (by assumption) _) | (exact sqB hlW (by assumption) (sqD hS)) | (exact sqB hlW (by assumption) (by assumption)) | (exact sqK hnb (by assumption) (by assumption)) | go_keep)
            (first
              | (go_at_call 52; refine (new_replacer_at _ _ _ _ W0.drew _ rfl).mono ?_; rintro e w5 ⟨g5, rfl, hg5, hb5⟩)
              | (go_at_call 53; refine (replace_strings _ g5 _ _ (by omega) hb5.size hg5).mono ?_; rintro e w6 ⟨rfl, hb6⟩; rw [hes])
              | (go_at_call 51; refine (wstr w.heap.size w.heap.size _ _ _ (Bld.keep (a := W0.drew) HBW.out (hb5.trans hb6)) (by simp; omega) (by have := (hb5.trans hb6).size; exact Nat.le_trans hsW this)).mono ?_; rintro e w7 ⟨rfl, hb7, hk7⟩))
          have hcat : ((⟨#[34]⟩ : ByteArray) ++ es ++ ⟨#[34]⟩).data.toList = [34] ++ bl (escS x.f1) ++ [34] := by
            rw [hes]
            show bl ((⟨#[34]⟩ : ByteArray) ++ es ++ ⟨#[34]⟩) = _
            rw [bl_append, bl_append]
          rw [hcat] at hb7
          have hbel7 : Below w.heap.size w w7 := by
            have h1 : Below w.heap.size w W0 := by rw [HW0.out]; exact pw_below_drewN HBW3.out n4
            exact (Below.trans (b := W0.drew) h1.drew ((hb5.trans hb6).mono hsW)).trans hk7.below
          have HB7 := Aside0.mk hb7
          have HBEL7 := Aside0.mk hbel7
          clear hb5 hb6 hb7 hk7 hbel7 hcat hg5 hf1 hf2
          go_wp2_with fail
          go_roundw
          case rel =>
            refine ⟨k + 1, by omega, by go_num, ⟨?_⟩, ⟨HBEL7.out⟩⟩
            rw [HN.out]
            have : paramL x = [59, 32] ++ bl x.f0 ++ [61] ++ ([34] ++ bl (escS x.f1) ++ [34]) := by unfold paramL valL; rw [HNM.out, HV.out]; rfl
            rw [this, ← List.append_assoc]
            exact HB7.out
          case measure => simp [intOf]; omega
      · have hnm' : isTokenB x.f0 = false := by simpa using hnm
        rw [hnm'] at HKN
        have HNM := Lib.hid hnm'
        clear hnm hnm'
        go_wp2_with fail
        rw [← HW1.out, ← HFB.out]
        refine (header_isToken.calls kn _ _ _ HKN.out).mono ?_
        rintro e w2 ⟨rfl, ⟨n, rfl⟩⟩
        go_wp2_with fail
        go_roundw
        case rel =>
          refine ⟨k + 1, by omega, by go_num, ⟨?_⟩, ⟨?_⟩⟩
          · rw [HN.out]
            have : paramL x = [] := by unfold paramL; rw [HNM.out]; rfl
            rw [this, List.append_nil]
            exact (hbl.out.keep HB1.out).keep (pw_below_drewN (Below.refl _ _) n)
          · exact pw_below_drewN (hbel.out.trans (HB1.out.mono hBsz)) n
        case measure => simp [intOf]; omega
    · have hkk : k = l0.length := by omega
      subst hkk
      rw [List.take_length] at hbl
      go_wp2_with fail
      refine (Tryz.Builder_String_any_k w.heap.size w.heap.size (quoteL m l0) wr hbl.out hbel.out.size).mono ?_
      rintro e w6 ⟨rfl, -, hb6, -⟩
      go_wp2_with fail
      go_ret
      exact ⟨rfl, hbel.out.trans hb6⟩
def header_Quote.f (m : ByteArray) (l0 : List S25) : Option ByteArray := if m.size + psum l0 ≤ 137438953472 then some (mkB (quoteL m l0)) else none
theorem header_Quote.calls (m : ByteArray) (A0 : Option Addr) (c0 : Nat) (l0 : List S25) (r : ByteArray) (w : World) (hr0 : Kd.C k25 w A0 l0.length l0) (hc0 : l0.length ≤ c0) (h : header_Quote.f m l0 = some r) :
    Calls Tryz.prog 16 #[.string m, .slice A0 l0.length c0] w fun e w' => e = .returned (.string r) ∧ Below w.heap.size w w' := by
  unfold header_Quote.f at h
  by_cases hs : m.size + psum l0 ≤ 137438953472
  · rw [if_pos hs] at h
    obtain rfl := Option.some.inj h
    exact quote_calls m A0 c0 l0 w hr0 hc0 hs
  · rw [if_neg hs] at h
    cases h
end Go.Proofs.YtieompfmhnpnaaaGreat.H
end
section
namespace Go.Proofs.YtieompfmhnpnaaaGreat.H
open Go.RowKit Go.Proofs.YtieompfmhnpnaaaGreatW.PrintWords Go.Proofs.YtieompfmhnpnaaaGreatW.PrintLast Go.Proofs.YtieompfmhnpnaaaGreatW.PrintMore
attribute [local go_sem] max2_int min2_int max_two min_two max_three min_three max_four min_four
set_option linter.unusedVariables false
set_option linter.unusedSimpArgs false
def stringslite_HasSuffix.f (a0 : ByteArray) (a1 : ByteArray) : Option (Bool) := if (a0.size : Int) ≥ (a1.size : Int) then (if 0 ≤ (wrap64 ((a0.size : Int) - (a1.size : Int))) then (if (wrap64 ((a0.size : Int) - (a1.size : Int))) ≤ (a0.size : Int) then (some ((a0.extract ((wrap64 ((a0.size : Int) - (a1.size : Int))) : Int).toNat a0.size).toList == a1.toList)) else (none)) else (none)) else (some false)
set_option maxHeartbeats 8000000 in
set_option maxRecDepth 100000 in
theorem stringslite_HasSuffix.calls (a0 : ByteArray) (a1 : ByteArray) (r : Bool) (w : World) (h : stringslite_HasSuffix.f a0 a1 = some r) :
    Calls Tryz.prog 98 #[.string a0, .string a1] w fun e w' => e = .returned (.bool r) ∧ Drawn0 w w' := by
  have H : (if (a0.size : Int) ≥ (a1.size : Int) then (if 0 ≤ (wrap64 ((a0.size : Int) - (a1.size : Int))) then (if (wrap64 ((a0.size : Int) - (a1.size : Int))) ≤ (a0.size : Int) then (some ((a0.extract ((wrap64 ((a0.size : Int) - (a1.size : Int))) : Int).toNat a0.size).toList == a1.toList)) else (none)) else (none)) else (some false)) = some r := h
  clear h
  by_cases c3 : (a0.size : Int) ≥ (a1.size : Int)
  · rw [if_pos c3] at H
    have c3b0 : decide ((a1.size : Int) ≤ (a0.size : Int)) = true := decide_eq_true c3
    have c3b1 : decide (a1.size ≤ a0.size) = true := decide_eq_true (Int.ofNat_le.mp c3)
    clear c3
    obtain ⟨ji4, hji4⟩ : ∃ j_ : Int, (wrap64 ((a0.size : Int) - (a1.size : Int))) = j_ := ⟨_, rfl⟩
    replace H : (if 0 ≤ (ji4) then (if (ji4) ≤ (a0.size : Int) then (some ((a0.extract ((ji4) : Int).toNat a0.size).toList == a1.toList)) else (none)) else (none)) = some r := by first | (rw [hji4] at H; exact H) | (simp only [hji4] at H ⊢; exact H)
    have hji4w : (IntKind.i64.wrap ((a0.size : Int) - (a1.size : Int))) = ji4 := (i64_w _).trans hji4
    by_cases c5 : 0 ≤ (ji4)
    · rw [if_pos c5] at H
      have c5b0 := eq_true c5
      have c5b1 : decide (0 ≤ (ji4)) = true := decide_eq_true c5
      clear c5
      by_cases c6 : (ji4) ≤ (a0.size : Int)
      · rw [if_pos c6] at H
        have c6b0 := eq_true c6
        have c6b1 : decide ((ji4) ≤ (a0.size : Int)) = true := decide_eq_true c6
        clear c6
        obtain rfl := Option.some.inj H
        go_enter Tryz.func98, Tryz.ntmps98
        go_wp2
        go_ret
        exact ⟨by first | rfl | (simp; done) | (simp only [← hji4] <;> (first | rfl | simp)) | (simp [*]; done), by repeat (first | exact Drawn0.refl _ | apply Drawn0.step)⟩
      · rw [if_neg c6] at H
        exact absurd H (by simp)
    · rw [if_neg c5] at H
      exact absurd H (by simp)
  · rw [if_neg c3] at H
    have c3b0 : decide ((a1.size : Int) ≤ (a0.size : Int)) = false := decide_eq_false c3
    have c3b1 : decide (a1.size ≤ a0.size) = false := decide_eq_false (fun h => c3 (Int.ofNat_le.mpr h))
    clear c3
    obtain rfl := Option.some.inj H
    go_enter Tryz.func98, Tryz.ntmps98
    go_wp2
    go_ret
    exact ⟨by first | rfl | (simp; done) | (simp [*]; done), by repeat (first | exact Drawn0.refl _ | apply Drawn0.step)⟩
def stringslite_TrimSuffix.f (a0 : ByteArray) (a1 : ByteArray) : Option (ByteArray) := (stringslite_HasSuffix.f a0 a1).bind fun t261 => (if t261 = true then (if 0 ≤ (wrap64 ((a0.size : Int) - (a1.size : Int))) then (if (wrap64 ((a0.size : Int) - (a1.size : Int))) ≤ (a0.size : Int) then (some (a0.extract 0 ((wrap64 ((a0.size : Int) - (a1.size : Int))) : Int).toNat)) else (none)) else (none)) else (some a0))
set_option maxHeartbeats 8000000 in
set_option maxRecDepth 100000 in
theorem stringslite_TrimSuffix.calls (a0 : ByteArray) (a1 : ByteArray) (r : ByteArray) (w : World) (h : stringslite_TrimSuffix.f a0 a1 = some r) :
    Calls Tryz.prog 87 #[.string a0, .string a1] w fun e w' => e = .returned (.string r) ∧ Drawn0 w w' := by
  have H : ((stringslite_HasSuffix.f a0 a1).bind fun t261 => (if t261 = true then (if 0 ≤ (wrap64 ((a0.size : Int) - (a1.size : Int))) then (if (wrap64 ((a0.size : Int) - (a1.size : Int))) ≤ (a0.size : Int) then (some (a0.extract 0 ((wrap64 ((a0.size : Int) - (a1.size : Int))) : Int).toNat)) else (none)) else (none)) else (some a0))) = some r := h
  clear h
  replace H := Option.bind_eq_some_iff.mp H
  obtain ⟨t261, A30, H⟩ := H
  replace H : (if t261 = true then (if 0 ≤ (wrap64 ((a0.size : Int) - (a1.size : Int))) then (if (wrap64 ((a0.size : Int) - (a1.size : Int))) ≤ (a0.size : Int) then (some (a0.extract 0 ((wrap64 ((a0.size : Int) - (a1.size : Int))) : Int).toNat)) else (none)) else (none)) else (some a0)) = some r := H
  have A3 := Aside0.mk A30
  clear A30
  by_cases c4 : t261 = true
  · subst c4
    have H1 : (if 0 ≤ (wrap64 ((a0.size : Int) - (a1.size : Int))) then (if (wrap64 ((a0.size : Int) - (a1.size : Int))) ≤ (a0.size : Int) then (some (a0.extract 0 ((wrap64 ((a0.size : Int) - (a1.size : Int))) : Int).toNat)) else (none)) else (none)) = some r := by rw [if_pos rfl] at H; exact H
    clear H
    have H := H1
    clear H1
    obtain ⟨ji5, hji5⟩ : ∃ j_ : Int, (wrap64 ((a0.size : Int) - (a1.size : Int))) = j_ := ⟨_, rfl⟩
    replace H : (if 0 ≤ (ji5) then (if (ji5) ≤ (a0.size : Int) then (some (a0.extract 0 ((ji5) : Int).toNat)) else (none)) else (none)) = some r := by first | (rw [hji5] at H; exact H) | (simp only [hji5] at H ⊢; exact H)
    (try rw [hji5] at A3)
    have hji5w : (IntKind.i64.wrap ((a0.size : Int) - (a1.size : Int))) = ji5 := (i64_w _).trans hji5
    by_cases c6 : 0 ≤ (ji5)
    · rw [if_pos c6] at H
      have c6b0 := eq_true c6
      have c6b1 : decide (0 ≤ (ji5)) = true := decide_eq_true c6
      clear c6
      by_cases c7 : (ji5) ≤ (a0.size : Int)
      · rw [if_pos c7] at H
        have c7b0 := eq_true c7
        have c7b1 : decide ((ji5) ≤ (a0.size : Int)) = true := decide_eq_true c7
        clear c7
        obtain rfl := Option.some.inj H
        go_enter Tryz.func87, Tryz.ntmps87
        go_wp2_with (first | ((with_reducible refine gate_callee (f := 98) rfl ?_); refine goesL_ (some 7) rfl rfl Tryz.func98 (by kernel_rfl) rfl #[.string a0, .string a1] rfl (by (try simp only [List.map_toArray, List.map_cons, List.map_nil]); first | done | rfl | (simp only [List.length_drop, List.length_take]; rfl)) ?_; (with_reducible refine (stringslite_HasSuffix.calls a0 a1 true _ A3.out).mono ?_); rintro e w' ⟨rfl, ⟨nd, rfl⟩⟩; refine ⟨_, rfl, ?_⟩))
        go_ret
        exact ⟨by first | rfl | (simp; done) | (simp only [← hji5] <;> (first | rfl | simp)) | (simp [*]; done), by repeat (first | exact Drawn0.refl _ | apply Drawn0.step)⟩
      · rw [if_neg c7] at H
        exact absurd H (by simp)
    · rw [if_neg c6] at H
      exact absurd H (by simp)
  · replace c4 := Bool.eq_false_iff.mpr c4
    subst c4
    have H1 : (some a0) = some r := by rw [if_neg (show ¬ (false = true) by decide)] at H; exact H
    clear H
    have H := H1
    clear H1
    obtain rfl := Option.some.inj H
    go_enter Tryz.func87, Tryz.ntmps87
    go_wp2_with (first | ((with_reducible refine gate_callee (f := 98) rfl ?_); refine goesL_ (some 7) rfl rfl Tryz.func98 (by kernel_rfl) rfl #[.string a0, .string a1] rfl (by (try simp only [List.map_toArray, List.map_cons, List.map_nil]); first | done | rfl | (simp only [List.length_drop, List.length_take]; rfl)) ?_; (with_reducible refine (stringslite_HasSuffix.calls a0 a1 false _ A3.out).mono ?_); rintro e w' ⟨rfl, ⟨nd, rfl⟩⟩; refine ⟨_, rfl, ?_⟩))
    go_ret
    exact ⟨by first | rfl | (simp; done) | (simp [*]; done), by repeat (first | exact Drawn0.refl _ | apply Drawn0.step)⟩
def strings_TrimSuffix.f (a0 : ByteArray) (a1 : ByteArray) : Option (ByteArray) := (stringslite_TrimSuffix.f a0 a1).bind fun t262 => (some t262)
set_option maxHeartbeats 8000000 in
set_option maxRecDepth 100000 in
theorem strings_TrimSuffix.calls (a0 : ByteArray) (a1 : ByteArray) (r : ByteArray) (w : World) (h : strings_TrimSuffix.f a0 a1 = some r) :
    Calls Tryz.prog 63 #[.string a0, .string a1] w fun e w' => e = .returned (.string r) ∧ Drawn0 w w' := by
  have H : ((stringslite_TrimSuffix.f a0 a1).bind fun t262 => (some t262)) = some r := h
  clear h
  replace H := Option.bind_eq_some_iff.mp H
  obtain ⟨t262, A30, H⟩ := H
  replace H : (some t262) = some r := H
  have A3 := Aside0.mk A30
  clear A30
  obtain rfl := Option.some.inj H
  go_enter Tryz.func63, Tryz.ntmps63
  go_wp2_with (first | ((with_reducible refine gate_callee (f := 87) rfl ?_); refine goesL_ (some 7) rfl rfl Tryz.func87 (by kernel_rfl) rfl #[.string a0, .string a1] rfl (by (try simp only [List.map_toArray, List.map_cons, List.map_nil]); first | done | rfl | (simp only [List.length_drop, List.length_take]; rfl)) ?_; (with_reducible refine (stringslite_TrimSuffix.calls a0 a1 t262 _ A3.out).mono ?_); rintro e w' ⟨rfl, ⟨nd, rfl⟩⟩; refine ⟨_, rfl, ?_⟩))
  go_ret
  exact ⟨by first | rfl | (simp; done) | (simp [*]; done), by repeat (first | exact Drawn0.refl _ | apply Drawn0.step)⟩
def missivelaw09_solid.l0 : Nat → ByteArray → List Int → Int → Option (ByteArray)
  | 0, _, _, _ => none
  | k + 1, x0, x3, x4 => if x4 < (x0.size : Int) then (if 0 ≤ x4 then (if (bt x0 x4) = 32 then (missivelaw09_solid.l0 k x0 x3 (wrap64 (x4 + 1))) else (if (bt x0 x4) = 9 then (missivelaw09_solid.l0 k x0 x3 (wrap64 (x4 + 1))) else (if (bt x0 x4) = 13 then (missivelaw09_solid.l0 k x0 x3 (wrap64 (x4 + 1))) else (if (bt x0 x4) = 10 then (missivelaw09_solid.l0 k x0 x3 (wrap64 (x4 + 1))) else (if x3.length < 140737488355328 then (missivelaw09_solid.l0 k x0 (x3 ++ [bt x0 x4]) (wrap64 (x4 + 1))) else (none)))))) else (none)) else (some (strOfNums x3))
def missivelaw09_solid.f (k : Nat) (a0 : ByteArray) : Option (ByteArray) := missivelaw09_solid.l0 k a0 ([] : List Int) 0
theorem missivelaw09_solid.mono_l : ∀ k, (∀ y0 y1 y2, LeO (missivelaw09_solid.l0 k y0 y1 y2) (missivelaw09_solid.l0 (k + 1) y0 y1 y2))
  | 0 => fun _ _ _ r h => by simp [missivelaw09_solid.l0] at h
  | k + 1 => by
    have ih0 := missivelaw09_solid.mono_l k
    · intro y0 y1 y2
      unfold missivelaw09_solid.l0
      repeat' first
      | (with_reducible exact ih0 _ _ _)
      | (with_reducible exact LeO.refl _)
      | (with_reducible exact LeO.none _)
      | (with_reducible refine LeO.ite ?_ ?_)
      | (with_reducible refine LeO.bind ?_ (fun _ => ?_))
      | exact ih0 _ _ _
      | exact LeO.none _
      | refine LeO.ite ?_ ?_
      | refine LeO.bind ?_ (fun _ => ?_)
theorem missivelaw09_solid.mono : ∀ a0 k, LeO (missivelaw09_solid.f k a0) (missivelaw09_solid.f (k + 1) a0) := by
  intro a0 k
  have ih0 := missivelaw09_solid.mono_l k
  unfold missivelaw09_solid.f
  repeat' first
      | (with_reducible exact ih0 _ _ _)
      | (with_reducible exact LeO.refl _)
      | (with_reducible exact LeO.none _)
      | (with_reducible refine LeO.ite ?_ ?_)
      | (with_reducible refine LeO.bind ?_ (fun _ => ?_))
      | exact ih0 _ _ _
      | exact LeO.none _
      | refine LeO.ite ?_ ?_
      | refine LeO.bind ?_ (fun _ => ?_)
end Go.Proofs.YtieompfmhnpnaaaGreat.H
end
section
namespace Go.Proofs.YtieompfmhnpnaaaGreat.H
open Go.RowKit Go.Proofs.YtieompfmhnpnaaaGreatW.PrintWords Go.Proofs.YtieompfmhnpnaaaGreatW.PrintLast Go.Proofs.YtieompfmhnpnaaaGreatW.PrintMore
set_option linter.unusedVariables false
set_option linter.unusedSimpArgs false
structure FrameX (ex : Nat → Prop) (W W' : World) : Prop where
  os : W'.os = W.os
  tape : W'.tape = W.tape
  output : W'.output = W.output
  size : W.heap.size ≤ W'.heap.size
  block : ∀ i, i < W.heap.size → ¬ ex i → W'.heap[i]? = W.heap[i]?
theorem FrameX.refl (ex : Nat → Prop) (W : World) : FrameX ex W W := ⟨rfl, rfl, rfl, Nat.le_refl _, fun _ _ _ => rfl⟩
theorem FrameX.trans {ex : Nat → Prop} {a b c : World} (h : FrameX ex a b) (k : FrameX ex b c) : FrameX ex a c :=
  ⟨k.os.trans h.os, k.tape.trans h.tape, k.output.trans h.output, Nat.le_trans h.size k.size, fun i hi he => (k.block i (Nat.lt_of_lt_of_le hi h.size) he).trans (h.block i hi he)⟩
theorem FrameX.of_below {ex : Nat → Prop} {a b : World} (h : Below a.heap.size a b) : FrameX ex a b := ⟨h.os, h.tape, h.output, h.size, fun i hi _ => h.block i hi⟩
theorem FrameX.imp {ex ex' : Nat → Prop} {a b : World} (h : FrameX ex a b) (hi : ∀ i, i < a.heap.size → ex i → ex' i) : FrameX ex' a b := ⟨h.os, h.tape, h.output, h.size, fun i hl he => h.block i hl (fun e => he (hi i hl e))⟩
theorem FrameX.setCell {ex : Nat → Prop} {a b : World} (h : FrameX ex a b) (p : Addr) (hp : ex p.block) (v : Value) : FrameX ex a (b.setCell p v) :=
  h.trans ⟨rfl, rfl, rfl, by simp [World.setCell], fun i _ he => Below.heap_setCell _ _ _ _ (fun e => he (e ▸ hp))⟩
theorem FrameX.drewN {ex : Nat → Prop} {a b : World} (h : FrameX ex a b) (n : Nat) : FrameX ex a (b.drewN n) := ⟨h.os, h.tape, h.output, h.size, h.block⟩
theorem FrameX.grown {ex : Nat → Prop} {a b c : World} {row : Option Nat} (h : FrameX ex a b) (hg : b.grownBy c row) (hr : ∀ k, row = some k → k < a.heap.size → ex k) : FrameX ex a c :=
  ⟨hg.os.trans h.os, hg.tape.trans h.tape, hg.output.trans h.output, Nat.le_trans h.size hg.size, fun i hi he => (hg.block i (Nat.lt_of_lt_of_le hi h.size) (fun e => he (hr i e.symm hi))).trans (h.block i hi he)⟩
def strVals (l : List ByteArray) : List Value := l.map Value.string
def addV (vs : List ByteArray) (s : ByteArray) : List ByteArray := if (trimS s).size = 0 then vs else vs ++ [trimS s]
set_option maxHeartbeats 1000000 in
set_option maxRecDepth 100000 in
theorem add_calls (n0 b1 : Nat) (vV : Value) (vs : List ByteArray) (s : ByteArray) (W : World) (hb : n0 ≤ b1) (hc : W.heap[b1]? = some (.cells #[vV] 42 (0, 0)))
    (hown : W.ownsRow n0 9 1 vV vs.length (strVals vs)) (hlen : vs.length ≤ 1099511627776) (hs : s.size ≤ 1099511627776) (hn : n0 ≤ W.heap.size) :
    Calls Tryz.prog 59 #[.string s, .pointer (some ⟨b1, 0, none⟩)] W fun e w' => e = .returned (.tuple #[]) ∧ ∃ vV', w'.heap[b1]? = some (.cells #[vV'] 42 (0, 0)) ∧ w'.ownsRow n0 9 1 vV' (addV vs s).length (strVals (addV vs s)) ∧
      (vV'.ownBlock = vV.ownBlock ∨ ∃ b, vV'.ownBlock = some b ∧ W.heap.size ≤ b) ∧ FrameX (fun i => i = b1 ∨ some i = vV.ownBlock) W w' := by
  obtain ⟨i0, hi, hz0, hz1, hz2⟩ := info_parts info9
  obtain ⟨kt, hkt⟩ := (trim_ev s hs).rounds
  have HT := Aside0.mk hkt
  clear hkt
  have hcell : W.cell? ⟨b1, 0, none⟩ = some vV := by simp [World.cell?, hc]
  have hfz : W.frozen? ⟨b1, 0, none⟩ = false := by simp [World.frozen?, hc]
  by_cases hz : (trimS s).size = 0
  · have hve : (trimS s).toList.isEmpty = true := by rw [toList_bl, List.isEmpty_iff_length_eq_zero, bl_length]; exact hz
    have hadd : addV vs s = vs := by unfold addV; rw [if_pos hz]
    have HA := Lib.hid hadd
    have HC := Aside0.mk hc
    clear hadd hz hc
    go_enter Tryz.func59, Tryz.ntmps59
    go_wp2_with fail
    refine (text_Trim.calls kt _ _ _ HT.out).mono ?_
    rintro e w1 ⟨rfl, ⟨n, rfl⟩⟩
    go_wp2_with fail
    go_end0
    rw [HA.out]
    exact ⟨rfl, vV, HC.out, hown, .inl rfl, (FrameX.refl _ W).drewN n⟩
  · have hve : (trimS s).toList.isEmpty = false := by
      rw [toList_bl]
      cases h : bl (trimS s) with
      | nil => exfalso; apply hz; rw [← bl_length, h]; rfl
      | cons _ _ => rfl
    have hadd : addV vs s = vs ++ [trimS s] := by unfold addV; rw [if_neg hz]
    have HA := Lib.hid hadd
    have HC := Aside0.mk hc
    clear hadd hz hc
    go_enter Tryz.func59, Tryz.ntmps59
    go_wp2_with fail
    refine (text_Trim.calls kt _ _ _ HT.out).mono ?_
    rintro e w1 ⟨rfl, ⟨n, rfl⟩⟩
    have hcell2 : ((W.drewN n).alloc (Obj.cells #[Value.string (trimS s)] 9)).cell? ⟨W.heap.size, 0, none⟩ = some (Value.string (trimS s)) := by
      rw [show (⟨W.heap.size, 0, none⟩ : Addr) = ⟨(W.drewN n).heap.size, 0, none⟩ from rfl, World.cell?_alloc_new]
      rfl
    go_wp2_with (at_builtin; refine wpList_append_own_at _ rfl _ _ 42 rfl n0 9 i0 (.string ⟨#[]⟩) 1 16 Tryz.underlying42 hi hz0 hz1 hz2 rfl (by decide) _ _ _ rfl ((pw_own_drewN hown n).alloc _) ⟨W.heap.size, 0, none⟩ 1 1 [.string (trimS s)] rfl rfl ?c1 ?c2 ?c3 ?c4 ?c5 ?_)
    case c1 =>
      intro j u hj
      match j, hj with
      | 0, hj => simp at hj; subst hj; rw [add_plain]; exact hcell2
    case c2 => intro u hu; simp at hu; subst hu; rfl
    case c3 => unfold maxLen; omega
    case c4 => omega
    case c5 => simp; omega
    intro v' w2 hown' hgrow _ hat
    have hb1lt : b1 < W.heap.size := (Array.getElem?_eq_some_iff.1 HC.out).1
    have hne : some b1 ≠ vV.ownBlock := fun e => by
      obtain ⟨cells, hcc⟩ := own_typed hown b1 e.symm
      rw [HC.out] at hcc
      injection hcc with hcc
      injection hcc with _ h2 _
      exact absurd h2 (by decide)
    have hold : w2.heap[b1]? = some (.cells #[vV] 42 (0, 0)) := by
      rw [hgrow.block b1 (by simp; omega) (by simpa using hne)]
      exact (Lib.alloc_old (W.drewN n) _ b1 hb1lt).trans HC.out
    have hcell3 : w2.cell? ⟨b1, 0, none⟩ = some vV := by simp [World.cell?, hold]
    have hfz3 : w2.frozen? ⟨b1, 0, none⟩ = false := by simp [World.frozen?, hold]
    have HO := Aside0.mk hown'
    have HG := Aside0.mk hgrow
    have HL := Aside0.mk hold
    have HAT := Aside0.mk hat
    obtain ⟨ao, n', cap, rfl⟩ : ∃ ao n' cap, v' = .slice ao n' cap := by
      obtain ⟨A, c, e⟩ := own_slice hown'
      exact ⟨_, _, _, e⟩
    clear hown' hgrow hold hcell2 hat
    go_wp2_with fail
    go_end0
    rw [HA.out]
    have hlt2 : b1 < w2.heap.size := (Array.getElem?_eq_some_iff.1 HL.out).1
    refine ⟨rfl, .slice ao n' cap, ?_, ?_, ?_, ?_⟩
    · have := blk_set HL.out 0 (.slice ao n' cap)
      simpa using this
    · have e : strVals (vs ++ [trimS s]) = strVals vs ++ [Value.string (trimS s)] := by simp [strVals]
      rw [e, List.length_append]
      have hne2 : (Value.slice ao n' cap).ownBlock ≠ some b1 := fun e2 => by
        obtain ⟨cells, hcc⟩ := own_typed HO.out b1 e2
        rw [HL.out] at hcc
        injection hcc with hcc
        injection hcc with _ h2 _
        exact absurd h2 (by decide)
      exact HO.out.kept (grownBy_setCell' w2 b1 _) (.inr hne2)
    · rcases HAT.out with h | h
      · exact .inl h
      · exact .inr ⟨_, h, by simp⟩
    · refine FrameX.setCell ?_ ⟨b1, 0, none⟩ (.inl rfl) _
      refine (((FrameX.refl _ W).drewN n).trans (FrameX.of_below ((Below.refl _ _).alloc (Nat.le_refl _) _))).grown HG.out (fun k hk _ => .inr hk.symm)
end Go.Proofs.YtieompfmhnpnaaaGreat.H
namespace Go.Proofs.YtieompfmhnpnaaaGreat.H
open Go.RowKit Go.Proofs.YtieompfmhnpnaaaGreatW.PrintWords Go.Proofs.YtieompfmhnpnaaaGreatW.PrintLast Go.Proofs.YtieompfmhnpnaaaGreatW.PrintMore
set_option linter.unusedVariables false
set_option linter.unusedSimpArgs false
def fieldVals (l : List S35) : List Value := l.flatMap fun f => [.string f.f0, .string f.f1]
theorem fieldVals_length (l : List S35) : (fieldVals l).length = l.length * 2 := by
  induction l with
  | nil => rfl
  | cons x l ih => unfold fieldVals at *; simp at *; omega
theorem fieldVals_snoc (l : List S35) (f : S35) : fieldVals (l ++ [f]) = fieldVals l ++ [.string f.f0, .string f.f1] := by simp [fieldVals]
def joinS (vs : List ByteArray) : ByteArray := mkB (Lib.join (vs.map bl) [32])
theorem join_calls (n0 : Nat) (vV : Value) (vs : List ByteArray) (W : World) (hV : W.ownsRow n0 9 1 vV vs.length (strVals vs)) (hlen : vs.length ≤ 1099511627776) (hj : (joinS vs).size ≤ 140737488355328) :
    Calls Tryz.prog 58 #[vV, .string ⟨#[32]⟩] W fun e w' => e = .returned (.string (joinS vs)) ∧ Below W.heap.size W w' := by
  cases vs with
  | nil =>
    obtain ⟨A, c, rfl⟩ := own_slice hV
    refine (Tryz.strings_Join_none A c ⟨#[32]⟩ W).mono ?_
    rintro e w' ⟨rfl, rfl⟩
    exact ⟨rfl, Below.refl _ _⟩
  | cons x vs =>
    obtain ⟨g, cap, rfl, hg, hn⟩ := hV.form (by simp)
    have hcells : ∀ (j : Nat) y, (x :: vs)[j]? = some y → W.cell? ⟨g, 0 + j, none⟩ = some (.string y) := fun j y hy => by
      have hj2 : j < (x :: vs).length := (List.getElem?_eq_some_iff.1 hy).1
      rw [Nat.zero_add, hV.cellAt j (by omega)]
      unfold strVals
      rw [List.getElem?_map, hy]
      rfl
    refine (Tryz.strings_Join g 0 cap (x :: vs) ⟨#[32]⟩ W hcells ?_ (by omega) ?_ ?_).mono ?_
    · exact World.block_lt_of_cell? W ⟨g, 0 + 0, none⟩ (hcells 0 x rfl)
    · rcases hV.2 with ⟨h, _⟩ | ⟨g', cap', cur, h, _, _, hnc, _⟩
      · cases h
      · injection h with _ _ h3
        omega
    · have := hj
      unfold joinS at this
      rw [mkB_size] at this
      exact this
    · rintro e w' ⟨rfl, hb⟩
      exact ⟨rfl, hb⟩
theorem keep2 {W w w' : World} {p1 p2 : Addr} {v1 v2 : Value} (hb : Below W.heap.size w w') (h : w.cell? p1 = some v1 ∧ w.cell? p2 = some v2) (he : w.heap.size = W.heap.size := by rfl) :
    w'.cell? p1 = some v1 ∧ w'.cell? p2 = some v2 := by
  rw [← he] at hb
  exact ⟨pw_cell_below hb h.1, pw_cell_below hb h.2⟩
theorem keep2s {w : World} {g b0 b1 j : Nat} {v1 v2 u : Value} (h0 : g ≠ b0) (h1 : g ≠ b1) (h : w.cell? ⟨b0, 0, none⟩ = some v1 ∧ w.cell? ⟨b1, 0, none⟩ = some v2) :
    (w.setCell ⟨g, j, none⟩ u).cell? ⟨b0, 0, none⟩ = some v1 ∧ (w.setCell ⟨g, j, none⟩ u).cell? ⟨b1, 0, none⟩ = some v2 :=
  ⟨(World.cell?_setCell_far w ⟨g, j, none⟩ ⟨b0, 0, none⟩ u h0).trans h.1, (World.cell?_setCell_far w ⟨g, j, none⟩ ⟨b1, 0, none⟩ u h1).trans h.2⟩
set_option maxHeartbeats 2000000 in
set_option maxRecDepth 100000 in
theorem finish_calls (n0 b0 b1 : Nat) (vF vV : Value) (fs : List S35) (f : S35) (vs : List ByteArray) (W : World) (hb0 : n0 ≤ b0) (hb1 : n0 ≤ b1) (hc0 : W.heap[b0]? = some (.cells #[vF] 33 (0, 0))) (hc1 : W.heap[b1]? = some (.cells #[vV] 42 (0, 0)))
    (hF : W.ownsRow n0 35 2 vF (fs.length + 1) (fieldVals (fs ++ [f]))) (hV : W.ownsRow n0 9 1 vV vs.length (strVals vs)) (hlen : vs.length ≤ 1099511627776) (hfl : fs.length ≤ 1099511627776) (hj : (joinS vs).size ≤ 140737488355328) (hn : n0 ≤ W.heap.size) :
    Calls Tryz.prog 57 #[.pointer (some ⟨b0, 0, none⟩), .pointer (some ⟨b1, 0, none⟩)] W fun e w' => e = .returned (.tuple #[]) ∧ w'.heap[b0]? = some (.cells #[vF] 33 (0, 0)) ∧ w'.heap[b1]? = some (.cells #[.slice none 0 0] 42 (0, 0)) ∧
      w'.ownsRow n0 35 2 vF (fs.length + 1) (fieldVals (fs ++ [⟨f.f0, joinS vs⟩])) ∧ FrameX (fun i => i = b1 ∨ some i = vF.ownBlock) W w' := by
  obtain ⟨g, cap, rfl, hg, hn2⟩ := hF.form (by omega)
  have hfl2 := fieldVals_length fs
  have htgt : W.cell? ⟨g, fs.length * 2 + 1, none⟩ = some (.string f.f1) := by
    rw [hF.cellAt (fs.length * 2 + 1) (by omega), fieldVals_snoc, List.getElem?_append_right (by omega), hfl2]
    simp
  have hfz := hF.frozenAt (fs.length * 2 + 1)
  have HF := Aside0.mk hF
  clear hF
  generalize hM : fs.length = M at *
  generalize hN : M + 1 = N at *
  have hcell0 : W.cell? ⟨b0, 0, none⟩ = some (.slice (some ⟨g, 0, none⟩) N cap) := by simp [World.cell?, hc0]
  have hcell1 : W.cell? ⟨b1, 0, none⟩ = some vV := by simp [World.cell?, hc1]
  have HC0 := Aside0.mk hc0
  have HC1 := Aside0.mk hc1
  have HM := Lib.hid hM
  have HN := Lib.hid hN
  have q1 : IntKind.i64.wrap ((N : Int) - 1) = (N : Int) - 1 := IntWalk.i64_in _ (by omega)
  have q2 : ((N : Int) - 1).toNat = M := by omega
  have q3 : (0 : Int) ≤ (N : Int) - 1 := by omega
  have q4 : (N : Int) - 1 < (N : Int) := by omega
  have q5 : (0 : Int) < (N : Int) := by omega
  have Q2 := Lib.hid q2
  have q6 : (1 : Int) ≤ (N : Int) := by omega
  have q7 : 0 < N := by omega
  have q8 : 1 ≤ N := by omega
  have hg0 : g ≠ b0 := fun e => by subst e; obtain ⟨cells, hcc⟩ := own_typed HF.out _ rfl; rw [hc0] at hcc; injection hcc with hcc; injection hcc with _ h2 _; exact absurd h2 (by decide)
  have hg1 : g ≠ b1 := fun e => by subst e; obtain ⟨cells, hcc⟩ := own_typed HF.out _ rfl; rw [hc1] at hcc; injection hcc with hcc; injection hcc with _ h2 _; exact absurd h2 (by decide)
  clear hc0 hc1 hM hN hfl2 q2
  go_enter Tryz.func57, Tryz.ntmps57
  go_wp2_with fail
  have q2 := Q2.out
  have hglt : g < W.heap.size := World.block_lt_of_cell? W _ htgt
  go_region_held3 (fun w' => w'.cell? ⟨b0, 0, none⟩ = some (.slice (some ⟨g, 0, none⟩) N cap) ∧ w'.cell? ⟨b1, 0, none⟩ = some vV)
    (first | go_keep | (exact keep2 (by assumption) (by assumption)) | (exact keep2s hg0 hg1 (by assumption)))
    (first
      | (go_at_call 58; refine (join_calls n0 vV vs _ (pw_own_drewN hV _) hlen hj).mono ?_; rintro e w3 ⟨rfl, hb3⟩; have ht3 := (hb3.cell (p := ⟨g, M * 2 + 1, none⟩) hglt).trans htgt; have hf3 := (hb3.frozen (p := ⟨g, M * 2 + 1, none⟩) hglt).trans hfz))
  have hb1lt : b1 < W.heap.size := World.block_lt_of_cell? W _ hcell1
  have HB3 := Aside0.mk hb3
  have hd1 : (w3.setCell ⟨g, M * 2 + 1, none⟩ (.string (joinS vs))).cell? ⟨b1, 0, none⟩ = some vV := (World.cell?_setCell_far _ ⟨g, M * 2 + 1, none⟩ ⟨b1, 0, none⟩ _ hg1).trans ((hb3.cell (p := ⟨b1, 0, none⟩) hb1lt).trans hcell1)
  have hfd : (w3.setCell ⟨g, M * 2 + 1, none⟩ (.string (joinS vs))).frozen? ⟨b1, 0, none⟩ = false := by
    rw [World.frozen?_setCell]
    refine (hb3.frozen (p := ⟨b1, 0, none⟩) hb1lt).trans ?_
    have := HC1.out
    simp [World.frozen?, this]
  clear hb3 ht3 hf3
  go_wp2_with fail
  go_end0
  obtain ⟨w4, hw4⟩ : ∃ w4, w4 = w3.setCell ⟨g, M * 2 + 1, none⟩ (.string (joinS vs)) := ⟨_, rfl⟩
  have hW3 : Below W.heap.size W w3 := (pw_below_drewN (Below.refl _ _) _).trans HB3.out
  have hb0lt : b0 < W.heap.size := World.block_lt_of_cell? W _ hcell0
  have e0 : w4.heap[b0]? = some (.cells #[.slice (some ⟨g, 0, none⟩) N cap] 33 (0, 0)) := by
    rw [hw4]
    exact blk_far ((hW3.block b0 hb0lt).trans HC0.out) (Ne.symm hg0) _
  have e1 : w4.heap[b1]? = some (.cells #[vV] 42 (0, 0)) := by
    rw [hw4]
    exact blk_far ((hW3.block b1 hb1lt).trans HC1.out) (Ne.symm hg1) _
  have h3 : w3.ownsRow n0 35 2 (.slice (some ⟨g, 0, none⟩) N cap) N (fieldVals (fs ++ [f])) := pw_own_below HF.out hW3
  have h4 : w4.ownsRow n0 35 2 (.slice (some ⟨g, 0, none⟩) N cap) N (fieldVals (fs ++ [⟨f.f0, joinS vs⟩])) := by
    have := (h3.stored (M * 2 + 1) (.string (joinS vs))).1
    rw [hw4]
    have e : (fieldVals (fs ++ [f])).set (M * 2 + 1) (.string (joinS vs)) = fieldVals (fs ++ [⟨f.f0, joinS vs⟩]) := by
      have hl := fieldVals_length fs
      rw [HM.out] at hl
      rw [fieldVals_snoc, fieldVals_snoc, List.set_append_right _ _ (by omega), hl]
      simp
    rw [e] at this
    exact this
  have hb01 : b1 ≠ b0 := fun e => by rw [e, e0] at e1; injection e1 with e1; injection e1 with _ h2 _; exact absurd h2 (by decide)
  rw [← hw4]
  refine ⟨rfl, blk_far e0 (Ne.symm hb01) _, ?_, ?_, ?_⟩
  · have := blk_set e1 0 (.slice none 0 0)
    simpa using this
  · exact h4.kept (grownBy_setCell' w4 b1 _) (.inr (by simp [Value.ownBlock]; exact hg1))
  · refine FrameX.setCell ?_ ⟨b1, 0, none⟩ (.inl rfl) _
    rw [hw4]
    exact (FrameX.of_below hW3).setCell ⟨g, M * 2 + 1, none⟩ (.inr rfl) _
set_option maxHeartbeats 2000000 in
set_option maxRecDepth 100000 in
theorem finish_none (n0 b0 b1 : Nat) (vF vV : Value) (W : World) (hc0 : W.heap[b0]? = some (.cells #[vF] 33 (0, 0))) (hc1 : W.heap[b1]? = some (.cells #[vV] 42 (0, 0)))
    (hF : W.ownsRow n0 35 2 vF 0 []) :
    Calls Tryz.prog 57 #[.pointer (some ⟨b0, 0, none⟩), .pointer (some ⟨b1, 0, none⟩)] W fun e w' => e = .returned (.tuple #[]) ∧ w'.heap[b0]? = some (.cells #[vF] 33 (0, 0)) ∧ w'.heap[b1]? = some (.cells #[.slice none 0 0] 42 (0, 0)) ∧
      w'.ownsRow n0 35 2 vF 0 [] ∧ FrameX (fun i => i = b1 ∨ some i = vF.ownBlock) W w' := by
  obtain ⟨A, c, rfl⟩ := own_slice hF
  have hcell0 : W.cell? ⟨b0, 0, none⟩ = some (.slice A 0 c) := by simp [World.cell?, hc0]
  have hcell1 : W.cell? ⟨b1, 0, none⟩ = some vV := by simp [World.cell?, hc1]
  have hfd : W.frozen? ⟨b1, 0, none⟩ = false := by simp [World.frozen?, hc1]
  have hb01 : b1 ≠ b0 := fun e => by rw [e, hc0] at hc1; injection hc1 with e1; injection e1 with _ h2 _; exact absurd h2 (by decide)
  have hne : (Value.slice A 0 c).ownBlock ≠ some b1 := fun e => by
    obtain ⟨cells, hcc⟩ := own_typed hF b1 e
    rw [hc1] at hcc
    injection hcc with hcc
    injection hcc with _ h2 _
    exact absurd h2 (by decide)
  have HC0 := Aside0.mk hc0
  have HC1 := Aside0.mk hc1
  have HF := Aside0.mk hF
  clear hc0 hc1 hF
  go_enter Tryz.func57, Tryz.ntmps57
  go_wp2_with fail
  go_end0
  refine ⟨rfl, blk_far HC0.out (Ne.symm hb01) _, ?_, HF.out.kept (grownBy_setCell' W b1 _) (.inr hne), (FrameX.refl _ W).setCell ⟨b1, 0, none⟩ (.inl rfl) _⟩
  have := blk_set HC1.out 0 (.slice none 0 0)
  simpa using this
end Go.Proofs.YtieompfmhnpnaaaGreat.H
end
section
namespace Go.Proofs.YtieompfmhnpnaaaGreat.H
open Go.RowKit Go.Proofs.YtieompfmhnpnaaaGreatW.PrintWords Go.Proofs.YtieompfmhnpnaaaGreatW.PrintLast Go.Proofs.YtieompfmhnpnaaaGreatW.PrintMore
set_option linter.unusedVariables false
set_option linter.unusedSimpArgs false
attribute [local go_sem] Oper.semAt_some
theorem wide_fn (f : Nat) : Fence.wide.fn f = True := rfl
theorem wide_depth : Fence.wide.depth = none := rfl
theorem wide_fn_r (f l : Nat) : (Fence.wide.inRound l).fn f = True := rfl
theorem wide_depth_r (l : Nat) : (Fence.wide.inRound l).depth = none := rfl
attribute [local go_sem] wide_fn wide_depth wide_fn_r wide_depth_r
structure LineX where
  con : ByteArray
  fr : Nat
  un : Nat
def trimCR (c : ByteArray) : ByteArray := if 1 ≤ c.size ∧ (c.extract (c.size - 1) c.size).toList = [13] then c.extract 0 (c.size - 1) else c
def lineAt (s : ByteArray) (fr : Nat) : LineX :=
  let c := cutAt (s.extract fr s.size) 10
  ⟨trimCR c.1, fr, fr + c.1.size + (if c.2.2 then 1 else 0)⟩
def linesAt (s : ByteArray) : Nat → Nat → List LineX
  | 0, _ => []
  | k + 1, fr => if fr < s.size then lineAt s fr :: linesAt s k (lineAt s fr).un else []
def linesOf (s : ByteArray) : List LineX := linesAt s (s.size + 1) 0
def encLine (x : LineX) : Array Value := #[.agg #[.string x.con, .int .i64 (x.fr : Int), .int .i64 (x.un : Int)]]
theorem trimCR_f (c : ByteArray) (hs : c.size ≤ 1099511627776) : strings_TrimSuffix.f c ⟨#[13]⟩ = some (trimCR c) := by
  unfold strings_TrimSuffix.f stringslite_TrimSuffix.f stringslite_HasSuffix.f
  have e1 : (⟨#[13]⟩ : ByteArray).size = 1 := rfl
  have e2 : (⟨#[13]⟩ : ByteArray).toList = [13] := by rw [Lib.toList_data]
  rw [e1, e2]
  by_cases h : 1 ≤ c.size
  · have hw : wrap64 ((c.size : Int) - ((1 : Nat) : Int)) = ((c.size - 1 : Nat) : Int) := by
      rw [show ((c.size : Int) - ((1 : Nat) : Int)) = ((c.size - 1 : Nat) : Int) by omega]
      exact (i64_w _).symm.trans (IntWalk.i64_in _ (by omega))
    rw [hw]
    have q1 : (c.size : Int) ≥ ((1 : Nat) : Int) := by omega
    have q2 : (0 : Int) ≤ ((c.size - 1 : Nat) : Int) := by omega
    have q3 : ((c.size - 1 : Nat) : Int) ≤ (c.size : Int) := by omega
    simp only [if_pos q1, if_pos q2, if_pos q3, Int.toNat_natCast, Option.bind_some]
    by_cases h2 : (c.extract (c.size - 1) c.size).toList = [13]
    · have e : trimCR c = c.extract 0 (c.size - 1) := if_pos ⟨h, h2⟩
      rw [e, h2]
      rfl
    · have e : trimCR c = c := if_neg (fun h3 => h2 h3.2)
      have e3 : ((c.extract (c.size - 1) c.size).toList == [13]) = false := by simp [h2]
      rw [e, e3]
      rfl
  · have q1 : ¬ (c.size : Int) ≥ ((1 : Nat) : Int) := by omega
    have e : trimCR c = c := if_neg (fun h3 => h h3.1)
    rw [e, if_neg q1]
    rfl
theorem cutAt_size (s : ByteArray) (c : UInt8) : (cutAt s c).1.size + (if (cutAt s c).2.2 then 1 else 0) ≤ s.size ∧ (0 < s.size → 0 < (cutAt s c).1.size + (if (cutAt s c).2.2 then 1 else 0)) := by
  by_cases h : 0 ≤ Lib.indexByte s.data.toList c
  · have e : cutAt s c = (s.extract 0 (Lib.indexByte s.data.toList c).toNat, s.extract ((Lib.indexByte s.data.toList c).toNat + 1) s.size, true) := by
      unfold cutAt; simp [h]
    have hl : s.data.toList.length = s.size := rfl
    have := indexByte_lt s.data.toList c
    rw [e]
    simp
    omega
  · have e : cutAt s c = (s, ⟨#[]⟩, false) := by
      unfold cutAt; simp [h]
    rw [e]
    simp
theorem lineAt_un (s : ByteArray) (fr : Nat) (h : fr < s.size) : fr < (lineAt s fr).un ∧ (lineAt s fr).un ≤ s.size ∧ (lineAt s fr).fr = fr := by
  have hx : (s.extract fr s.size).size = s.size - fr := by simp
  obtain ⟨h1, h2⟩ := cutAt_size (s.extract fr s.size) 10
  refine ⟨?_, ?_, rfl⟩
  · have := h2 (by omega)
    unfold lineAt
    dsimp only
    omega
  · unfold lineAt
    dsimp only
    omega
set_option maxRecDepth 100000 in
set_option maxHeartbeats 2000000 in
theorem lines1_in (n : Nat) (l bs : Nat) (s : ByteArray) (hs : s.size ≤ 1099511627776) (J Jx : List LineX → World → Prop)
    (hY : ∀ pre x W, x ∈ linesOf s → J pre W → pre.length < (linesOf s).length → YieldAt Fence.wide (n - 1) Tryz.prog l (encLine x) W fun e W' =>
      (e = .returned (.bool true) ∧ J (pre ++ [x]) W' ∧ W'.heap[bs]? = W.heap[bs]?) ∨ (e = .returned (.bool false) ∧ Jx (pre ++ [x]) W'))
    (W : World) (hBs : W.heap[bs]? = some (.cells #[.string s] 9 (0, 0))) (h0 : J [] W) (hJd : ∀ pre W k, J pre W → J pre (W.drewN k)) :
    CallsIn Fence.wide n Tryz.prog 86 #[.func (.yield l) #[] #[], .pointer (some ⟨bs, 0, none⟩)] W fun e W' => (∃ v, e = .returned v) ∧
      ((∃ ys, ys = linesOf s ∧ J ys W') ∨ (∃ pre, pre <+: linesOf s ∧ Jx pre W')) := by
  refine callsIn_of_wp Tryz.func86 rfl trivial ?_ rfl
  simp only [Tryz.ntmps86, List.size_toArray, List.length_cons, List.length_nil, Nat.reduceAdd, Nat.reduceSub, Array.replicate_succ, Array.replicate_zero, List.push_toArray, List.append_toArray, List.nil_append, List.cons_append]
  gi_wp2
  gi_loopw [3] (fun i wr => ∃ (k fr : Nat) (pre : List LineX), i = .int .i64 fr ∧ fr ≤ s.size ∧ s.size + 1 ≤ fr + k ∧ linesOf s = pre ++ linesAt s k fr ∧ J pre wr ∧ wr.heap[bs]? = some (.cells #[.string s] 9 (0, 0)))
    (fun i _ => s.size - (intOf i).toNat)
  case atStart => exact ⟨s.size + 1, 0, [], rfl, by omega, by omega, rfl, h0, hBs⟩
  case round =>
    obtain ⟨k, fr, pre, rfl, hfr, hk, hls, hJs, hbs⟩ := hrel
    have hc : wr.cell? ⟨bs, 0, none⟩ = some (.string s) := by simp [World.cell?, hbs]
    by_cases hlt : fr < s.size
    · obtain ⟨k, rfl⟩ : ∃ m, k = m + 1 := ⟨k - 1, by omega⟩
      obtain ⟨hu1, hu2, hu3⟩ := lineAt_un s fr hlt
      have hls2 : linesAt s (k + 1) fr = lineAt s fr :: linesAt s k (lineAt s fr).un := by rw [linesAt, if_pos hlt]
      rw [hls2] at hls
      clear hls2
      have hlen : pre.length < (linesOf s).length := by rw [hls]; simp
      have LS := Aside0.mk hls
      clear hls
      obtain ⟨c, r, b, hcut⟩ : ∃ c r b, cutAt (s.extract fr s.size) 10 = (c, r, b) := ⟨_, _, _, rfl⟩
      have hline : lineAt s fr = ⟨trimCR c, fr, fr + c.size + (if b then 1 else 0)⟩ := by unfold lineAt; rw [hcut]
      rw [hline] at hu1 hu2
      have hx : (s.extract fr s.size).size = s.size - fr := by simp
      have hcf : strings_Cut.f (s.extract fr s.size) ⟨#[10]⟩ = some (c, r, b) := by
        unfold strings_Cut.f
        rw [if_pos ⟨by omega, rfl⟩]
        exact congrArg some hcut
      have hcs : c.size ≤ s.size := by dsimp only at hu2; omega
      have htr := trimCR_f c (by omega)
      have HCF := Aside0.mk hcf
      have HTR := Aside0.mk htr
      have HL := Aside0.mk hline
      clear hcf htr hcut hline
      have hq1 : (fr : Int) < (s.size : Int) := by omega
      have hq3 : (fr : Int) ≤ (s.size : Int) := by omega
      have hq4 : (0 : Int) ≤ (fr : Int) := by omega
      have hq2 : IntKind.i64.wrap ((fr : Int) + (c.size : Int)) = ((fr + c.size : Nat) : Int) := by rw [Int.natCast_add]; exact IntWalk.i64_in _ (by dsimp only at hu2; omega)
      cases b
      all_goals
        try simp only [Bool.false_eq_true, if_false, if_true, Nat.add_zero] at hu1 hu2 HL
        gi_wp2_with (gi_at_call 40; refine (callsIn_wide.2 (strings_Cut.calls _ _ _ _ _ _ HCF.out)).mono ?_; rintro e w' ⟨rfl, ⟨nd, rfl⟩⟩)
        refine (callsIn_wide.2 (strings_TrimSuffix.calls _ _ _ _ HTR.out)).mono ?_
        rintro e w' ⟨rfl, ⟨nd2, rfl⟩⟩
        obtain ⟨fn, tmps, assign, body, hy, hR⟩ := hY pre (lineAt s fr) (wr.drewN (nd + nd2)) (by rw [LS.out]; simp) (hJd _ _ _ hJs) hlen
        rw [HL.out] at hy
        simp only [encLine, Int.natCast_add, Int.natCast_one] at hy
        gi_wp2
        refine hR.mono ?_
        rintro e W3 (⟨rfl, hJ3, hk3⟩ | ⟨rfl, hJx3⟩)
        · gi_wp2
          go_roundw
          case rel =>
            refine ⟨k, (lineAt s fr).un, pre ++ [lineAt s fr], by rw [HL.out]; simp, by rw [HL.out]; exact hu2, by rw [HL.out]; dsimp only; omega, by rw [LS.out]; simp, hJ3, hk3.trans hbs⟩
          case measure => simp [intOf]; omega
        · gi_wp2
          refine bodyPost_ret (results_none rfl _ _ _) rfl ?_
          exact ⟨⟨_, rfl⟩, .inr ⟨_, ⟨linesAt s k (lineAt s fr).un, by rw [LS.out]; simp⟩, hJx3⟩⟩
    · obtain rfl : fr = s.size := by omega
      have e : linesAt s k s.size = [] := by cases k with | zero => rfl | succ k => rw [linesAt, if_neg (by omega)]
      rw [e, List.append_nil] at hls
      gi_wp2
      go_end0
      exact ⟨⟨_, rfl⟩, .inl ⟨_, rfl, hls ▸ hJs⟩⟩
def lineNo (s : ByteArray) (i : Nat) : LineX := (linesOf s).getD i ⟨⟨#[]⟩, 0, 0⟩
theorem lines_stops (n bs : Nat) (s : ByteArray) (hs : s.size ≤ 1099511627776) (w : World) (hb : bs < w.heap.size) (hc : w.heap[bs]? = some (.cells #[.string s] 9 (0, 0))) :
    SeqStopsK Fence.wide n Tryz.prog 86 #[.pointer (some ⟨bs, 0, none⟩)] (fun i : Nat => encLine (lineNo s i)) (fun W W' => W'.heap[bs]? = W.heap[bs]?) (fun xs => xs.map (lineNo s) = linesOf s) (fun pre => pre.map (lineNo s) <+: linesOf s) (linesOf s).length w := fun l J Jx W hW hJ hJx hY h0 => by
  refine (lines1_in n l bs s hs (fun pre W => ∃ is : List Nat, is.map (lineNo s) = pre ∧ J is W) (fun pre W => ∃ is : List Nat, is.map (lineNo s) = pre ∧ Jx is W) ?_ W ((hW.block bs hb).trans hc) ⟨[], rfl, h0⟩ ?_).mono ?_
  · rintro pre x W1 hx ⟨is, rfl, hj⟩ hl
    obtain ⟨i, hi, rfl⟩ := List.getElem_of_mem hx
    have e : lineNo s i = (linesOf s)[i] := by unfold lineNo; rw [List.getD_eq_getElem?_getD, List.getElem?_eq_getElem hi]; rfl
    rw [List.length_map] at hl
    obtain ⟨fn, tmps, assign, body, hy, hR⟩ := hY is i W1 hj hl
    dsimp only at hy
    rw [e] at hy
    refine ⟨fn, tmps, assign, body, hy, hR.mono ?_⟩
    rintro e' W' (⟨rfl, h1, h2⟩ | ⟨rfl, h1⟩)
    · exact .inl ⟨rfl, ⟨is ++ [i], by simp [e], h1⟩, h2⟩
    · exact .inr ⟨rfl, is ++ [i], by simp [e], h1⟩
  · rintro pre W1 k ⟨is, rfl, h⟩
    exact ⟨is, rfl, hJ is W1 _ none h ⟨rfl, rfl, rfl, Nat.le_refl _, fun _ _ _ => rfl⟩ (fun r e => by cases e)⟩
  · rintro e W' ⟨hv, ⟨ys, rfl, is, hi, hj⟩ | ⟨pre, hp, is, rfl, hj⟩⟩
    · exact ⟨hv, .inl ⟨is, hi, hj⟩⟩
    · exact ⟨hv, .inr ⟨is, hp, hj⟩⟩
theorem linesAt_length (s : ByteArray) : ∀ k fr, (linesAt s k fr).length ≤ k
  | 0, fr => by simp [linesAt]
  | k + 1, fr => by
    rw [linesAt]
    split
    · have := linesAt_length s k (lineAt s fr).un
      simp; omega
    · simp
theorem linesAt_con (s : ByteArray) : ∀ k fr, ∀ x ∈ linesAt s k fr, x.con.size ≤ s.size
  | 0, fr => by simp [linesAt]
  | k + 1, fr => by
    rw [linesAt]
    split
    · intro x hx
      rcases List.mem_cons.1 hx with rfl | hx
      · have h1 := cutAt_size (s.extract fr s.size) 10
        have h2 : (s.extract fr s.size).size = s.size - fr := by simp
        show (trimCR (cutAt (s.extract fr s.size) 10).1).size ≤ s.size
        have h3 : ∀ c : ByteArray, (trimCR c).size ≤ c.size := fun c => by
          unfold trimCR
          split
          · simp
          · exact Nat.le_refl _
        have := h3 (cutAt (s.extract fr s.size) 10).1
        omega
      · exact linesAt_con s k _ x hx
    · intro x hx; cases hx
theorem lineNo_con (s : ByteArray) (i : Nat) : (lineNo s i).con.size ≤ s.size := by
  unfold lineNo
  rw [List.getD_eq_getElem?_getD]
  cases h : (linesOf s)[i]? with
  | none => exact Nat.zero_le _
  | some x => exact linesAt_con s _ _ x (List.mem_of_getElem? h)
theorem lines_in (n : Nat) (s : ByteArray) (w : World) :
    CallsIn Fence.wide n Tryz.prog 60 #[.string s] w fun e w' => e = .returned (.func (.func 86) #[] #[.pointer (some ⟨w.heap.size, 0, none⟩)]) ∧ w' = w.alloc (.cells #[.string s] 9) := by
  refine callsIn_of_wp Tryz.func60 rfl trivial ?_ rfl
  simp only [Tryz.ntmps60, List.size_toArray, List.length_cons, List.length_nil, Nat.reduceAdd, Nat.reduceSub, Array.replicate_succ, Array.replicate_zero, List.push_toArray, List.append_toArray, List.nil_append, List.cons_append]
  gi_wp2
  go_ret
  exact ⟨rfl, rfl⟩
end Go.Proofs.YtieompfmhnpnaaaGreat.H
namespace Go.Proofs.YtieompfmhnpnaaaGreat.H
open Go.RowKit Go.Proofs.YtieompfmhnpnaaaGreatW.PrintWords Go.Proofs.YtieompfmhnpnaaaGreatW.PrintLast Go.Proofs.YtieompfmhnpnaaaGreatW.PrintMore
set_option linter.unusedVariables false
set_option linter.unusedSimpArgs false
attribute [local go_sem] Oper.semAt_some
attribute [local go_sem] wide_fn wide_depth wide_fn_r wide_depth_r
def piecesAt (s : ByteArray) : Nat → Nat → Bool → Nat → List ByteArray
  | 0, fr, q, i => [s.extract fr s.size]
  | k + 1, fr, q, i =>
    if i < s.size then
      (if byteAt s i = 92 ∧ q = true then piecesAt s k fr q (i + 2)
       else if byteAt s i = 34 then piecesAt s k fr (!q) (i + 1)
       else if byteAt s i = 59 ∧ q = false then s.extract fr i :: piecesAt s k (i + 1) q (i + 1)
       else piecesAt s k fr q (i + 1))
    else [s.extract fr s.size]
def piecesOf (s : ByteArray) : List ByteArray := piecesAt s (s.size + 1) 0 false 0
theorem piecesAt_end (s : ByteArray) (k fr i : Nat) (q : Bool) (h : s.size ≤ i) : piecesAt s k fr q i = [s.extract fr s.size] := by
  cases k with
  | zero => rfl
  | succ k => rw [piecesAt, if_neg (by omega)]
set_option maxRecDepth 100000 in
set_option maxHeartbeats 2000000 in
theorem pieces1_in (n : Nat) (l bs : Nat) (s : ByteArray) (hs : s.size ≤ 1099511627776) (J Jx : List ByteArray → World → Prop)
    (hY : ∀ pre x W, x ∈ piecesOf s → J pre W → pre.length < (piecesOf s).length → YieldAt Fence.wide (n - 1) Tryz.prog l #[.string x] W fun e W' =>
      (e = .returned (.bool true) ∧ J (pre ++ [x]) W' ∧ W'.heap[bs]? = W.heap[bs]?) ∨ (e = .returned (.bool false) ∧ Jx (pre ++ [x]) W'))
    (W : World) (hBs : W.heap[bs]? = some (.cells #[.string s] 9 (0, 0))) (h0 : J [] W) :
    CallsIn Fence.wide n Tryz.prog 70 #[.func (.yield l) #[] #[], .pointer (some ⟨bs, 0, none⟩)] W fun e W' => (∃ v, e = .returned v) ∧
      ((∃ ys, ys = piecesOf s ∧ J ys W') ∨ (∃ pre, pre <+: piecesOf s ∧ Jx pre W')) := by
  refine callsIn_of_wp Tryz.func70 rfl trivial ?_ rfl
  simp only [Tryz.ntmps70, List.size_toArray, List.length_cons, List.length_nil, Nat.reduceAdd, Nat.reduceSub, Array.replicate_succ, Array.replicate_zero, List.push_toArray, List.append_toArray, List.nil_append, List.cons_append]
  gi_wp2
  gi_loopw [3, 4, 5] (fun a b i wr => ∃ (k fr ix : Nat) (q : Bool) (pre : List ByteArray), a = .int .i64 fr ∧ b = .bool q ∧ i = .int .i64 ix ∧ fr ≤ ix ∧ fr ≤ s.size ∧ ix ≤ s.size + 1 ∧ s.size + 1 ≤ ix + k ∧ piecesOf s = pre ++ piecesAt s k fr q ix ∧ J pre wr ∧ wr.heap[bs]? = some (.cells #[.string s] 9 (0, 0)))
    (fun _ _ i _ => s.size + 2 - (intOf i).toNat)
  case atStart => exact ⟨s.size + 1, 0, 0, false, [], rfl, rfl, rfl, by omega, by omega, by omega, by omega, rfl, h0, hBs⟩
  case round =>
    obtain ⟨k, fr, ix, q, pre, rfl, rfl, rfl, hfi, hfr, hix, hk, hls, hJs, hbs⟩ := hrel
    have hc : wr.cell? ⟨bs, 0, none⟩ = some (.string s) := by simp [World.cell?, hbs]
    by_cases hlt : ix < s.size
    · obtain ⟨k, rfl⟩ : ∃ m, k = m + 1 := ⟨k - 1, by omega⟩
      rw [piecesAt, if_pos hlt] at hls
      have hq1 : (ix : Int) < (s.size : Int) := by omega
      have hq0 : (0 : Int) ≤ (ix : Int) := by omega
      have b256 : (byteAt s ix).toNat < 256 := (byteAt s ix).toNat_lt
      by_cases c92 : byteAt s ix = 92
      · have k0 : ∀ hh, s[ix]'hh = 92 := fun hh => (byteAt_get s ix hh).trans c92
        cases q with
        | true =>
          rw [if_pos ⟨c92, rfl⟩] at hls
          have LS := Aside0.mk hls
          clear hls c92
          gi_wp2_with fail
          go_roundw
          case rel => exact ⟨k, fr, ix + 2, true, pre, rfl, rfl, by go_num, by omega, by omega, by omega, by omega, LS.out, hJs, hbs⟩
          case measure => simp [intOf]; omega
        | false =>
          rw [if_neg (fun h => by cases h.2), if_neg (by rw [c92]; decide), if_neg (fun h => by rw [c92] at h; exact absurd h.1 (by decide))] at hls
          have LS := Aside0.mk hls
          clear hls c92
          gi_wp2_with fail
          go_roundw
          case rel => exact ⟨k, fr, ix + 1, false, pre, rfl, rfl, by go_num, by omega, by omega, by omega, by omega, LS.out, hJs, hbs⟩
          case measure => simp [intOf]; omega
      · rw [if_neg (fun h => c92 h.1)] at hls
        have n92 : ((byteAt s ix).toNat : Int) ≠ 92 := fun e => c92 (by rw [← UInt8.toNat_inj]; show _ = 92; omega)
        have d92 : (((byteAt s ix).toNat : Int) == 92) = false := by simpa using n92
        by_cases c34 : byteAt s ix = 34
        · have k0 : ∀ hh, s[ix]'hh = 34 := fun hh => (byteAt_get s ix hh).trans c34
          rw [if_pos c34] at hls
          have LS := Aside0.mk hls
          clear hls c34 c92 n92 d92
          gi_wp2_with fail
          go_roundw
          case rel => exact ⟨k, fr, ix + 1, !q, pre, rfl, rfl, by go_num, by omega, by omega, by omega, by omega, LS.out, hJs, hbs⟩
          case measure => simp [intOf]; omega
        · rw [if_neg c34] at hls
          have n34 : ((byteAt s ix).toNat : Int) ≠ 34 := fun e => c34 (by rw [← UInt8.toNat_inj]; show _ = 34; omega)
          have d34 : (((byteAt s ix).toNat : Int) == 34) = false := by simpa using n34
          by_cases c59 : byteAt s ix = 59
          · have k0 : ∀ hh, s[ix]'hh = 59 := fun hh => (byteAt_get s ix hh).trans c59
            cases q with
            | true =>
              rw [if_neg (fun h => by cases h.2)] at hls
              have LS := Aside0.mk hls
              clear hls c59 c34 c92 n92 d92 n34 d34
              gi_wp2_with fail
              go_roundw
              case rel => exact ⟨k, fr, ix + 1, true, pre, rfl, rfl, by go_num, by omega, by omega, by omega, by omega, LS.out, hJs, hbs⟩
              case measure => simp [intOf]; omega
            | false =>
              rw [if_pos ⟨c59, rfl⟩] at hls
              have LS := Aside0.mk hls
              have hmem : s.extract fr ix ∈ piecesOf s := by rw [hls]; simp
              have hlen : pre.length < (piecesOf s).length := by rw [hls]; simp
              obtain ⟨fn, tmps, assign, body, hy, hR⟩ := hY pre (s.extract fr ix) wr hmem hJs hlen
              have hsl1 : (fr : Int) ≤ (ix : Int) := by omega
              have hsl2 : (ix : Int) ≤ (s.size : Int) := by omega
              have hsl3 : (0 : Int) ≤ (fr : Int) := by omega
              clear hls c59 c34 c92 n92 d92 n34 d34 hmem hlen
              gi_wp2_with fail
              refine hR.mono ?_
              rintro e W3 (⟨rfl, hJ3, hk3⟩ | ⟨rfl, hJx3⟩)
              · gi_wp2_with fail
                go_roundw
                case rel => exact ⟨k, ix + 1, ix + 1, false, pre ++ [s.extract fr ix], by go_num, rfl, by go_num, by omega, by omega, by omega, by omega, by rw [LS.out]; simp, hJ3, hk3.trans hbs⟩
                case measure => simp [intOf]; omega
              · gi_wp2_with fail
                refine bodyPost_ret (results_none rfl _ _ _) rfl ?_
                exact ⟨⟨_, rfl⟩, .inr ⟨_, ⟨piecesAt s k (ix + 1) false (ix + 1), by rw [LS.out]; simp⟩, hJx3⟩⟩
          · rw [if_neg (fun h => c59 h.1)] at hls
            have n59 : ((byteAt s ix).toNat : Int) ≠ 59 := fun e => c59 (by rw [← UInt8.toNat_inj]; show _ = 59; omega)
            have d59 : (((byteAt s ix).toNat : Int) == 59) = false := by simpa using n59
            have k0 : ∀ hh, s[ix]'hh = byteAt s ix := fun hh => byteAt_get s ix hh
            have LS := Aside0.mk hls
            clear hls c59 c34 c92
            gi_wp2_with fail
            go_roundw
            case rel => exact ⟨k, fr, ix + 1, q, pre, rfl, rfl, by go_num, by omega, by omega, by omega, by omega, LS.out, hJs, hbs⟩
            case measure => simp [intOf]; omega
    · rw [piecesAt_end s k fr ix q (by omega)] at hls
      have LS := Aside0.mk hls
      have hmem : s.extract fr s.size ∈ piecesOf s := by rw [hls]; simp
      have hlen : pre.length < (piecesOf s).length := by rw [hls]; simp
      obtain ⟨fn, tmps, assign, body, hy, hR⟩ := hY pre (s.extract fr s.size) wr hmem hJs hlen
      have hsl2 : (fr : Int) ≤ (s.size : Int) := by omega
      have hsl3 : (0 : Int) ≤ (fr : Int) := by omega
      have hq1 : ¬ (ix : Int) < (s.size : Int) := by omega
      clear hls hmem hlen
      gi_wp2_with fail
      refine hR.mono ?_
      rintro e W3 (⟨rfl, hJ3, hk3⟩ | ⟨rfl, hJx3⟩)
      · gi_wp2_with fail
        go_end0
        exact ⟨⟨_, rfl⟩, .inl ⟨_, rfl, by rw [LS.out]; exact hJ3⟩⟩
      · gi_wp2_with fail
        go_end0
        exact ⟨⟨_, rfl⟩, .inr ⟨_, ⟨[], by rw [LS.out]; simp⟩, hJx3⟩⟩
end Go.Proofs.YtieompfmhnpnaaaGreat.H
end
section
namespace Go.Proofs.YtieompfmhnpnaaaGreat.H
open Go.RowKit Go.Proofs.YtieompfmhnpnaaaGreatW.PrintWords Go.Proofs.YtieompfmhnpnaaaGreatW.PrintLast Go.Proofs.YtieompfmhnpnaaaGreatW.PrintMore
set_option linter.unusedVariables false
set_option linter.unusedSimpArgs false
def unqL : List UInt8 → List UInt8 → List UInt8 × Bool
  | [], _ => ([], false)
  | [c], acc => if c = 34 then (acc, true) else ([], false)
  | c :: d :: r, acc => if c = 34 then ([], false) else if c = 92 then unqL r (acc ++ [d]) else unqL (d :: r) (acc ++ [c])
def unqB (p : List UInt8 × Bool) : ByteArray × Bool := (mkB p.1, p.2)
theorem unq_l0 (s : ByteArray) (hs : s.size ≤ 1099511627776) : ∀ (n i : Nat) (acc : List UInt8), i + n = s.size → acc.length ≤ i →
    Ev (fun k => header_unquoted.l0 k s (ints acc) (i : Int)) (unqB (unqL ((bl s).drop i) acc))
  | 0, i, acc, hi, ha => by
    have hl := bl_length s
    refine Ev.step (fun k => by simp only [header_unquoted.l0]; rfl) ?_
    refine ev_no (by omega) ?_
    exact ev_done (by rw [List.drop_of_length_le (by omega)]; rfl)
  | 1, i, acc, hi, ha => by
    have hl := bl_length s
    refine Ev.step (fun k => by simp only [header_unquoted.l0]; rfl) ?_
    have hb := bt_byteAt s i (by omega)
    rw [drop_byteAt s i (by omega), List.drop_of_length_le (by omega)]
    refine ev_yes (by omega) ?_
    refine ev_yes (by omega) ?_
    simp only [hb, wrap_up i (by omega)]
    by_cases c34 : byteAt s i = 34
    · refine ev_yes (by rw [c34]; rfl) ?_
      refine ev_no (by omega) ?_
      refine ev_done ?_
      unfold unqL
      rw [if_pos c34, ints_back]
      rfl
    · have n34 : ¬ ((byteAt s i).toNat : Int) = 34 := fun e => c34 (by rw [← UInt8.toNat_inj]; show _ = 34; omega)
      refine ev_no n34 ?_
      have e1 : unqB (unqL [byteAt s i] acc) = ((⟨#[]⟩ : ByteArray), false) := by unfold unqL; rw [if_neg c34]; rfl
      rw [e1]
      by_cases c92 : byteAt s i = 92
      · refine ev_yes (by rw [c92]; rfl) ?_
        refine ev_yes (by omega) ?_
        exact Ev.now _
      · have n92 : ¬ ((byteAt s i).toNat : Int) = 92 := fun e => c92 (by rw [← UInt8.toNat_inj]; show _ = 92; omega)
        refine ev_no n92 ?_
        refine ev_yes (by rw [ints_length]; omega) ?_
        have := unq_l0 s hs 0 (i + 1) (acc ++ [byteAt s i]) (by omega) (by simp; omega)
        rw [List.drop_of_length_le (by omega), ints_append] at this
        exact this
  | n + 2, i, acc, hi, ha => by
    have hl := bl_length s
    refine Ev.step (fun k => by simp only [header_unquoted.l0]; rfl) ?_
    have hb := bt_byteAt s i (by omega)
    have hb1 := bt_byteAt s (i + 1) (by omega)
    rw [drop_byteAt s i (by omega), drop_byteAt s (i + 1) (by omega)]
    refine ev_yes (by omega) ?_
    refine ev_yes (by omega) ?_
    simp only [hb, wrap_up i (by omega), hb1, wrap_up (i + 1) (by omega)]
    by_cases c34 : byteAt s i = 34
    · refine ev_yes (by rw [c34]; rfl) ?_
      refine ev_yes (by omega) ?_
      refine ev_done ?_
      unfold unqL
      rw [if_pos c34]
      rfl
    · have n34 : ¬ ((byteAt s i).toNat : Int) = 34 := fun e => c34 (by rw [← UInt8.toNat_inj]; show _ = 34; omega)
      refine ev_no n34 ?_
      by_cases c92 : byteAt s i = 92
      · refine ev_yes (by rw [c92]; rfl) ?_
        refine ev_no (by omega) ?_
        refine ev_yes (by omega) ?_
        refine ev_yes (by omega) ?_
        refine ev_yes (by rw [ints_length]; omega) ?_
        have e1 : unqL (byteAt s i :: byteAt s (i + 1) :: (bl s).drop (i + 1 + 1)) acc = unqL ((bl s).drop (i + 1 + 1)) (acc ++ [byteAt s (i + 1)]) := by
          rw [unqL, if_neg c34, if_pos c92]
        rw [e1]
        have := unq_l0 s hs n (i + 1 + 1) (acc ++ [byteAt s (i + 1)]) (by omega) (by simp; omega)
        rw [ints_append] at this
        exact this
      · have n92 : ¬ ((byteAt s i).toNat : Int) = 92 := fun e => c92 (by rw [← UInt8.toNat_inj]; show _ = 92; omega)
        refine ev_no n92 ?_
        refine ev_yes (by rw [ints_length]; omega) ?_
        have e1 : unqL (byteAt s i :: byteAt s (i + 1) :: (bl s).drop (i + 1 + 1)) acc = unqL ((bl s).drop (i + 1)) (acc ++ [byteAt s i]) := by
          rw [unqL, if_neg c34, if_neg c92, ← drop_byteAt s (i + 1) (by omega)]
        rw [e1]
        have := unq_l0 s hs (n + 1) (i + 1) (acc ++ [byteAt s i]) (by omega) (by simp; omega)
        rw [ints_append] at this
        exact this
def valueS (s : ByteArray) : ByteArray × Bool :=
  if (bl s).head? = some 34 then unqB (unqL ((bl s).drop 1) [])
  else if (bl s).all (fun c => visB c && c != 34) then (s, !(bl s).isEmpty) else ((⟨#[]⟩ : ByteArray), false)
theorem pval_l0 (s : ByteArray) (hs : s.size ≤ 1099511627776) : ∀ (n i : Nat), i + n = s.size →
    Ev (fun k => header_paramValue.l0 k s (s.size : Int) (i : Int)) (if ((bl s).drop i).all (fun c => visB c && c != 34) then (s, !(bl s).isEmpty) else ((⟨#[]⟩ : ByteArray), false))
  | 0, i, hi => by
    have hl := bl_length s
    refine Ev.step (fun k => by simp only [header_paramValue.l0]; rfl) ?_
    refine ev_no (by omega) ?_
    refine ev_done ?_
    rw [List.drop_of_length_le (by omega), toList_bl]
    cases h : bl s <;> rfl
  | n + 1, i, hi => by
    refine Ev.step (fun k => by simp only [header_paramValue.l0]; rfl) ?_
    have hb := bt_byteAt s i (by omega)
    refine ev_yes (by omega) ?_
    refine ev_yes (by omega) ?_
    refine ev_yes (by omega) ?_
    simp only [hb, visible_at, Option.bind_some]
    rw [drop_byteAt s i (by omega), List.all_cons]
    by_cases hv : visB (byteAt s i) = true
    · simp only [hv, if_true, Bool.true_and]
      by_cases c34 : byteAt s i = 34
      · have h2 : (byteAt s i != 34) = false := by rw [c34]; rfl
        rw [h2]
        refine ev_yes (by rw [c34]; rfl) ?_
        simp only [Bool.false_and]
        exact Ev.now _
      · have n34 : ¬ ((byteAt s i).toNat : Int) = 34 := fun e => c34 (by rw [← UInt8.toNat_inj]; show _ = 34; omega)
        have h2 : (byteAt s i != 34) = true := by simpa using c34
        rw [h2]
        refine ev_no n34 ?_
        simp only [Bool.true_and]
        rw [wrap_up i (by omega)]
        exact pval_l0 s hs n (i + 1) (by omega)
    · have hv' : visB (byteAt s i) = false := by simpa using hv
      simp only [hv', Bool.false_and]
      exact Ev.now _
theorem prefix_34 (s : ByteArray) (hs : s.size ≤ 1099511627776) : strings_HasPrefix.f s (⟨#[34]⟩ : ByteArray) = some (decide ((bl s).head? = some 34)) := by
  unfold strings_HasPrefix.f stringslite_HasPrefix.f
  have e1 : (⟨#[34]⟩ : ByteArray).size = 1 := rfl
  have e2 : (⟨#[34]⟩ : ByteArray).toList = [34] := by rw [toList_bl]
  rw [e1, e2]
  have hl := bl_length s
  by_cases h : 1 ≤ s.size
  · have q1 : (s.size : Int) ≥ ((1 : Nat) : Int) := by omega
    have q2 : (0 : Int) ≤ ((1 : Nat) : Int) := by omega
    have q3 : ((1 : Nat) : Int) ≤ (s.size : Int) := by omega
    simp only [if_pos q1, if_pos q2, if_pos q3, Int.toNat_natCast, Option.bind_some]
    congr 1
    rw [toList_bl, bl_extract]
    have hd := drop_byteAt s 0 (by omega)
    rw [List.drop_zero] at hd
    rw [hd]
    simp
    rw [Bool.eq_iff_iff]
    simp
  · have q1 : ¬ (s.size : Int) ≥ ((1 : Nat) : Int) := by omega
    simp only [if_neg q1]
    have : bl s = [] := List.eq_nil_of_length_eq_zero (by omega)
    rw [this]
    rfl
theorem value_ev (s : ByteArray) (hs : s.size ≤ 1099511627776) : Ev (fun k => header_paramValue.f k s) (valueS s) := by
  unfold header_paramValue.f valueS
  simp only [prefix_34 s hs, Option.bind_some]
  by_cases h : (bl s).head? = some 34
  · simp only [h, decide_true, if_true]
    have hl : 1 ≤ s.size := by
      rw [← bl_length]
      cases hb : bl s with
      | nil => rw [hb] at h; cases h
      | cons _ _ => simp
    have := unq_l0 s hs (s.size - 1) 1 [] (by omega) (by simp)
    have h2 : Ev (fun k => header_unquoted.f k s) (unqB (unqL ((bl s).drop 1) [])) := by
      unfold header_unquoted.f
      exact this
    exact Ev.bind h2 (ev_done rfl)
  · simp only [h, decide_false, Bool.false_eq_true, if_false]
    have := pval_l0 s hs s.size 0 (by omega)
    simpa using this
end Go.Proofs.YtieompfmhnpnaaaGreat.H
end
section
namespace Go.Proofs.YtieompfmhnpnaaaGreat.H
open Go.RowKit Go.Proofs.YtieompfmhnpnaaaGreatW.PrintWords Go.Proofs.YtieompfmhnpnaaaGreatW.PrintLast Go.Proofs.YtieompfmhnpnaaaGreatW.PrintMore
set_option linter.unusedVariables false
set_option linter.unusedSimpArgs false
structure PS where
  fs : List S35
  vs : List ByteArray
  en : Nat
def doneF (fs : List S35) (vs : List ByteArray) : List S35 :=
  match fs.getLast? with
  | none => []
  | some f => fs.dropLast ++ [⟨f.f0, joinS vs⟩]
theorem doneF_snoc (fs : List S35) (f : S35) (vs : List ByteArray) : doneF (fs ++ [f]) vs = fs ++ [⟨f.f0, joinS vs⟩] := by simp [doneF]
theorem doneF_length (fs : List S35) (vs : List ByteArray) : (doneF fs vs).length = fs.length := by
  rcases List.eq_nil_or_concat fs with rfl | ⟨gs, g, rfl⟩
  · rfl
  · rw [List.concat_eq_append, doneF_snoc]; simp
def stepP (st : PS) (x : LineX) : PS × Bool :=
  if x.con.size = 0 then (⟨st.fs, st.vs, x.un⟩, false)
  else if blankB (byteAt x.con 0) = true ∧ 0 < st.fs.length then (⟨st.fs, addV st.vs x.con, x.un⟩, true)
  else if (cutAt x.con 58).2.2 = false ∨ isNameB (cutAt x.con 58).1 = false ∨ 400 ≤ st.fs.length then (st, false)
  else (⟨doneF st.fs st.vs ++ [⟨(cutAt x.con 58).1, ⟨#[]⟩⟩], addV [] (cutAt x.con 58).2.1, x.un⟩, true)
def goP (st : PS) : List LineX → Option PS
  | [] => some st
  | x :: xs => if (stepP st x).2 then goP (stepP st x).1 xs else none
def foldP (st : PS) : List LineX → PS
  | [] => st
  | x :: xs => if (stepP st x).2 then foldP (stepP st x).1 xs else (stepP st x).1
theorem goP_snoc (st : PS) (xs : List LineX) (x : LineX) : goP st (xs ++ [x]) = (goP st xs).bind fun s => if (stepP s x).2 then some (stepP s x).1 else none := by
  induction xs generalizing st with
  | nil => simp [goP]
  | cons y ys ih =>
    show (if (stepP st y).2 then goP (stepP st y).1 (ys ++ [x]) else none) = ((if (stepP st y).2 then goP (stepP st y).1 ys else none).bind _)
    split
    · exact ih _
    · rfl
theorem foldP_of_goP {st st' : PS} {xs : List LineX} (h : goP st xs = some st') : foldP st xs = st' := by
  induction xs generalizing st with
  | nil => exact Option.some.inj h
  | cons y ys ih =>
    unfold goP at h
    unfold foldP
    split at h
    · rename_i h1
      rw [if_pos h1]
      exact ih h
    · cases h
theorem foldP_stop {st st' : PS} {xs rest : List LineX} {x : LineX} (h : goP st xs = some st') (hx : (stepP st' x).2 = false) : foldP st (xs ++ [x] ++ rest) = (stepP st' x).1 := by
  induction xs generalizing st with
  | nil =>
    obtain rfl := Option.some.inj h
    simp [foldP, hx]
  | cons y ys ih =>
    unfold goP at h
    show (if (stepP st y).2 then foldP (stepP st y).1 (ys ++ [x] ++ rest) else _) = _
    split at h
    · rename_i h1
      rw [if_pos h1]
      exact ih h
    · cases h
def parseS (s : ByteArray) : List S35 × Nat :=
  let st := foldP ⟨[], [], 0⟩ (linesOf s)
  (doneF st.fs st.vs, st.en)
def BdP (M k : Nat) (st : PS) : Prop := st.vs.length ≤ k ∧ (∀ v ∈ st.vs, v.size ≤ M) ∧ st.fs.length ≤ 400
theorem cutAt_two (s : ByteArray) (c : UInt8) : (cutAt s c).1.size ≤ s.size ∧ (cutAt s c).2.1.size ≤ s.size := by
  refine ⟨by have := (cutAt_size s c).1; omega, ?_⟩
  by_cases h : 0 ≤ Lib.indexByte s.data.toList c
  · have e : cutAt s c = (s.extract 0 (Lib.indexByte s.data.toList c).toNat, s.extract ((Lib.indexByte s.data.toList c).toNat + 1) s.size, true) := by
      unfold cutAt; simp [h]
    rw [e]
    simp
  · have e : cutAt s c = (s, ⟨#[]⟩, false) := by
      unfold cutAt; simp [h]
    rw [e]
    exact Nat.zero_le _
theorem addV_bd {M k : Nat} {vs : List ByteArray} {s : ByteArray} (h1 : vs.length ≤ k) (h2 : ∀ v ∈ vs, v.size ≤ M) (hs : s.size ≤ M) : (addV vs s).length ≤ k + 1 ∧ ∀ v ∈ addV vs s, v.size ≤ M := by
  unfold addV
  split
  · exact ⟨by omega, h2⟩
  · refine ⟨by simp; omega, fun v hv => ?_⟩
    rcases List.mem_append.1 hv with hv | hv
    · exact h2 v hv
    · obtain rfl : v = trimS s := by simpa using hv
      exact Nat.le_trans (trim_size s) hs
theorem stepP_bd {M k : Nat} {st : PS} {x : LineX} (h : BdP M k st) (hx : x.con.size ≤ M) : BdP M (k + 1) (stepP st x).1 := by
  obtain ⟨h1, h2, h3⟩ := h
  unfold stepP
  split
  · exact ⟨by simp; omega, h2, h3⟩
  · split
    · have := addV_bd h1 h2 hx
      exact ⟨this.1, this.2, h3⟩
    · split
      · exact ⟨by simp; omega, h2, h3⟩
      · rename_i h4
        have h5 : (cutAt x.con 58).2.1.size ≤ M := Nat.le_trans (cutAt_two _ _).2 hx
        have := addV_bd (M := M) (k := k) (vs := []) (s := (cutAt x.con 58).2.1) (Nat.zero_le _) (fun v hv => by cases hv) h5
        refine ⟨this.1, this.2, ?_⟩
        have h6 : ¬ 400 ≤ st.fs.length := fun h => h4 (.inr (.inr h))
        simp [doneF_length]
        omega
theorem goP_bd {M : Nat} {xs : List LineX} (hx : ∀ x ∈ xs, x.con.size ≤ M) {k : Nat} {st st' : PS} (h : BdP M k st) (hg : goP st xs = some st') : BdP M (k + xs.length) st' := by
  induction xs generalizing st k with
  | nil => obtain rfl := Option.some.inj hg; exact h
  | cons y ys ih =>
    unfold goP at hg
    split at hg
    · have := ih (fun x hx' => hx x (List.mem_cons_of_mem _ hx')) (stepP_bd h (hx y List.mem_cons_self)) hg
      have e : k + (y :: ys).length = k + 1 + ys.length := by simp; omega
      rw [e]
      exact this
    · cases hg
theorem joinS_size {M : Nat} {vs : List ByteArray} (h : ∀ v ∈ vs, v.size ≤ M) : (joinS vs).size ≤ vs.length * (M + 1) := by
  unfold joinS
  rw [mkB_size]
  induction vs with
  | nil => exact Nat.zero_le _
  | cons v vs ih =>
    have h1 := ih (fun u hu => h u (List.mem_cons_of_mem _ hu))
    have h2 := h v List.mem_cons_self
    rw [← bl_length] at h2
    have e : (v :: vs).length * (M + 1) = vs.length * (M + 1) + (M + 1) := by rw [List.length_cons, Nat.succ_mul]
    rw [e]
    cases vs with
    | nil => simp only [List.map_cons, List.map_nil, Lib.join]; simp at h2 ⊢; omega
    | cons u us =>
      simp only [List.map_cons, Lib.join, List.length_append] at h1 ⊢
      simp at h1 h2 ⊢
      omega
def Ex (n0 : Nat) (W : World) (i : Nat) : Prop := n0 ≤ i ∧ ∃ cells t, W.heap[i]? = some (.cells cells t (0, 0)) ∧ t ≠ 81
def Stp (n0 : Nat) (W W' : World) : Prop := FrameX (Ex n0 W) W W'
theorem Stp.refl (n0 : Nat) (W : World) : Stp n0 W W := FrameX.refl _ _
theorem Stp.trans {n0 : Nat} {A B C : World} (h : Stp n0 A B) (k : Stp n0 B C) : Stp n0 A C :=
  ⟨k.os.trans h.os, k.tape.trans h.tape, k.output.trans h.output, Nat.le_trans h.size k.size, fun i hi he => by
    have e1 := h.block i hi he
    exact (k.block i (Nat.lt_of_lt_of_le hi h.size) (fun ⟨h1, c, t, h2, h3⟩ => he ⟨h1, c, t, e1 ▸ h2, h3⟩)).trans e1⟩
theorem Stp.keeps {n0 : Nat} {W W' : World} (h : Stp n0 W W') (B : Nat) : KeepsFrom B W W' :=
  ⟨h.size, fun k o _ hk ho => (h.block k (Array.getElem?_eq_some_iff.1 hk).1 (fun ⟨_, c, t, h2, _⟩ => by rw [h2] at hk; cases hk; cases ho)).trans hk⟩
theorem Stp.below {n0 : Nat} {W W' : World} (h : Stp n0 W W') (hn : n0 ≤ W.heap.size) : Below n0 W W' :=
  ⟨h.os, h.tape, h.output, h.size, fun i hi => h.block i (Nat.lt_of_lt_of_le hi hn) (fun ⟨h1, _⟩ => by omega)⟩
theorem Stp.lv {n0 : Nat} {W W' : World} (h : Stp n0 W W') {B : Nat} {c : Array Value} (hv : W.heap[B]? = some (.cells c 81 (0, 0))) : W'.heap[B]? = some (.cells c 81 (0, 0)) :=
  (h.block B (Array.getElem?_eq_some_iff.1 hv).1 (fun ⟨_, c', t, h2, h3⟩ => by rw [hv] at h2; injection h2 with h2; injection h2 with _ h2 _; exact h3 h2.symm)).trans hv
theorem Stp.setCell {n0 : Nat} {A W : World} (h : Stp n0 A W) {b : Nat} {c : Array Value} {t : TypeId} (hb : n0 ≤ b) (hc : W.heap[b]? = some (.cells c t (0, 0))) (ht : t ≠ 81) (j : Nat) (v : Value) : Stp n0 A (W.setCell ⟨b, j, none⟩ v) :=
  h.trans ((FrameX.refl _ W).setCell ⟨b, j, none⟩ ⟨hb, c, t, hc, ht⟩ v)
def FIN (b0 b1 : Nat) : Value := .func (.func 57) #[] #[.pointer (some ⟨b0, 0, none⟩), .pointer (some ⟨b1, 0, none⟩)]
def ADD (b1 : Nat) : Value := .func (.func 59) #[] #[.pointer (some ⟨b1, 0, none⟩)]
structure PSt (n0 b0 b1 b2 b3 b4 bs : Nat) (raw : ByteArray) (st : PS) (vF vV : Value) (W : World) : Prop where
  c0 : W.heap[b0]? = some (.cells #[vF] 33 (0, 0))
  c1 : W.heap[b1]? = some (.cells #[vV] 42 (0, 0))
  c2 : W.heap[b2]? = some (.cells #[FIN b0 b1] 1 (0, 0))
  c3 : W.heap[b3]? = some (.cells #[ADD b1] 76 (0, 0))
  c4 : W.heap[b4]? = some (.cells #[.int .i64 (st.en : Int)] 3 (0, 0))
  cs : W.heap[bs]? = some (.cells #[.string raw] 9 (0, 0))
  oF : W.ownsRow n0 35 2 vF st.fs.length (fieldVals st.fs)
  oV : W.ownsRow n0 9 1 vV st.vs.length (strVals st.vs)
  ne : vV.ownBlock ≠ some bs
section
variable {n0 b0 b1 b2 b3 b4 bs : Nat} {raw : ByteArray} {st : PS} {vF vV : Value} {W : World}
theorem pst_own (X Y : World) (row : Option Nat) (h : PSt n0 b0 b1 b2 b3 b4 bs raw st vF vV X) (hg : X.grownBy Y row) (hr : ∀ r, row = some r → ∃ o : Obj, X.heap[r]? = some o ∧ o.isCells = false) : PSt n0 b0 b1 b2 b3 b4 bs raw st vF vV Y := by
  have k : ∀ {b : Nat} {c : Array Value} {t : TypeId}, X.heap[b]? = some (.cells c t (0, 0)) → Y.heap[b]? = some (.cells c t (0, 0)) := fun {b c t} hb =>
    (grownBy_keeps_cells hg hr hb rfl).trans hb
  have ko : ∀ {e : TypeId} {size n : Nat} {v : Value} {xs : List Value}, X.ownsRow n0 e size v n xs → Y.ownsRow n0 e size v n xs := fun {e size n v xs} ho => by
    refine ho.kept hg ?_
    cases hv : v.ownBlock with
    | none => exact .inl rfl
    | some g =>
      refine .inr (fun e' => ?_)
      obtain ⟨cells, hc⟩ := own_typed ho g hv
      obtain ⟨o, h1, h2⟩ := hr g e'.symm
      rw [hc] at h1
      cases h1
      cases h2
  exact ⟨k h.c0, k h.c1, k h.c2, k h.c3, k h.c4, k h.cs, ko h.oF, ko h.oV, h.ne⟩
theorem own_not {e t : TypeId} {size n b : Nat} {v : Value} {xs : List Value} {c : Array Value} (h : W.ownsRow n0 e size v n xs) (hb : W.heap[b]? = some (.cells c t (0, 0))) (ht : t ≠ e) : v.ownBlock ≠ some b := fun e2 => by
  obtain ⟨cells, hcc⟩ := own_typed h b e2
  rw [hb] at hcc
  injection hcc with hcc
  injection hcc with _ h2 _
  exact ht h2
theorem own_ex {e : TypeId} {size n : Nat} {v : Value} {xs : List Value} (h : W.ownsRow n0 e size v n xs) (he : e ≠ 81) {i : Nat} (hi : some i = v.ownBlock) : Ex n0 W i := by
  obtain ⟨cells, hcc⟩ := own_typed h i hi.symm
  exact ⟨own_base h i hi.symm, cells, e, hcc, he⟩
theorem pst_drewN (h : PSt n0 b0 b1 b2 b3 b4 bs raw st vF vV W) (k : Nat) : PSt n0 b0 b1 b2 b3 b4 bs raw st vF vV (W.drewN k) := pst_own W _ none h ⟨rfl, rfl, rfl, Nat.le_refl _, fun _ _ _ => rfl⟩ (fun r e => by cases e)
theorem Stp.drewN {n0 : Nat} {A W : World} (h : Stp n0 A W) (k : Nat) : Stp n0 A (W.drewN k) := FrameX.drewN h k
theorem add_ps (h : PSt n0 b0 b1 b2 b3 b4 bs raw st vF vV W) (hb1 : n0 ≤ b1) (s : ByteArray) (hs : s.size ≤ 1099511627776) (hlen : st.vs.length ≤ 1099511627776) (hn : n0 ≤ W.heap.size) :
    Calls Tryz.prog 59 #[.string s, .pointer (some ⟨b1, 0, none⟩)] W fun e w' => e = .returned (.tuple #[]) ∧ (∃ vV', PSt n0 b0 b1 b2 b3 b4 bs raw ⟨st.fs, addV st.vs s, st.en⟩ vF vV' w') ∧ Stp n0 W w' := by
  refine (add_calls n0 b1 vV st.vs s W hb1 h.c1 h.oV hlen hs hn).mono ?_
  rintro e w' ⟨rfl, vV', k1, k2, k3, k4⟩
  refine ⟨rfl, ⟨vV', ?_⟩, k4.imp ?_⟩
  · have kb : ∀ {b : Nat} {c : Array Value} {t : TypeId}, W.heap[b]? = some (.cells c t (0, 0)) → b ≠ b1 → some b ≠ vV.ownBlock → w'.heap[b]? = some (.cells c t (0, 0)) := fun {b c t} hb h1 h2 =>
      (k4.block b (Array.getElem?_eq_some_iff.1 hb).1 (fun h3 => h3.elim h1 h2)).trans hb
    have d1 : ∀ {b : Nat} {c : Array Value} {t : TypeId}, W.heap[b]? = some (.cells c t (0, 0)) → t ≠ 42 → b ≠ b1 := fun {b c t} hb ht e => by
      subst e
      rw [h.c1] at hb
      injection hb with hb
      injection hb with _ h2 _
      exact ht h2.symm
    refine ⟨kb h.c0 (d1 h.c0 (by decide)) (Ne.symm (own_not h.oV h.c0 (by decide))), k1, kb h.c2 (d1 h.c2 (by decide)) (Ne.symm (own_not h.oV h.c2 (by decide))), kb h.c3 (d1 h.c3 (by decide)) (Ne.symm (own_not h.oV h.c3 (by decide))),
      kb h.c4 (d1 h.c4 (by decide)) (Ne.symm (own_not h.oV h.c4 (by decide))), kb h.cs (d1 h.cs (by decide)) (Ne.symm h.ne), ?_, k2, ?_⟩
    · refine own_move h.oF (fun g hg => ?_)
      obtain ⟨cells, hcc⟩ := own_typed h.oF g hg
      exact (kb hcc (d1 hcc (by decide)) (Ne.symm (own_not h.oV hcc (by decide)))).trans hcc.symm
    · rcases k3 with k3 | ⟨b, k3, k5⟩
      · rw [k3]; exact h.ne
      · rw [k3]
        intro e
        injection e with e
        have := (Array.getElem?_eq_some_iff.1 h.cs).1
        omega
  · rintro i hi (rfl | h2)
    · exact ⟨hb1, _, _, h.c1, by decide⟩
    · exact own_ex h.oV (by decide) h2
theorem fin_ps (h : PSt n0 b0 b1 b2 b3 b4 bs raw st vF vV W) (hb0 : n0 ≤ b0) (hb1 : n0 ≤ b1) (hfl : st.fs.length ≤ 1099511627776) (hlen : st.vs.length ≤ 1099511627776) (hj : (joinS st.vs).size ≤ 140737488355328) (hn : n0 ≤ W.heap.size) :
    Calls Tryz.prog 57 #[.pointer (some ⟨b0, 0, none⟩), .pointer (some ⟨b1, 0, none⟩)] W fun e w' => e = .returned (.tuple #[]) ∧ PSt n0 b0 b1 b2 b3 b4 bs raw ⟨doneF st.fs st.vs, [], st.en⟩ vF (.slice none 0 0) w' ∧ Stp n0 W w' := by
  have main : ∀ w', w'.heap[b0]? = some (.cells #[vF] 33 (0, 0)) → w'.heap[b1]? = some (.cells #[.slice none 0 0] 42 (0, 0)) → w'.ownsRow n0 35 2 vF (doneF st.fs st.vs).length (fieldVals (doneF st.fs st.vs)) → FrameX (fun i => i = b1 ∨ some i = vF.ownBlock) W w' →
      PSt n0 b0 b1 b2 b3 b4 bs raw ⟨doneF st.fs st.vs, [], st.en⟩ vF (.slice none 0 0) w' ∧ Stp n0 W w' := by
    intro w' k0 k1 k2 k4
    refine ⟨?_, k4.imp ?_⟩
    · have kb : ∀ {b : Nat} {c : Array Value} {t : TypeId}, W.heap[b]? = some (.cells c t (0, 0)) → b ≠ b1 → some b ≠ vF.ownBlock → w'.heap[b]? = some (.cells c t (0, 0)) := fun {b c t} hb h1 h2 =>
        (k4.block b (Array.getElem?_eq_some_iff.1 hb).1 (fun h3 => h3.elim h1 h2)).trans hb
      have d1 : ∀ {b : Nat} {c : Array Value} {t : TypeId}, W.heap[b]? = some (.cells c t (0, 0)) → t ≠ 42 → b ≠ b1 := fun {b c t} hb ht e => by
        subst e
        rw [h.c1] at hb
        injection hb with hb
        injection hb with _ h2 _
        exact ht h2.symm
      exact ⟨k0, k1, kb h.c2 (d1 h.c2 (by decide)) (Ne.symm (own_not h.oF h.c2 (by decide))), kb h.c3 (d1 h.c3 (by decide)) (Ne.symm (own_not h.oF h.c3 (by decide))),
        kb h.c4 (d1 h.c4 (by decide)) (Ne.symm (own_not h.oF h.c4 (by decide))), kb h.cs (d1 h.cs (by decide)) (Ne.symm (own_not h.oF h.cs (by decide))), k2, own_nil _ _ _ _, by simp [Value.ownBlock]⟩
    · rintro i hi (rfl | h2)
      · exact ⟨hb1, _, _, h.c1, by decide⟩
      · exact own_ex h.oF (by decide) h2
  have hoF := h.oF
  rcases List.eq_nil_or_concat st.fs with e | ⟨gs, g, e⟩
  · rw [e] at hoF
    refine (finish_none n0 b0 b1 vF vV W h.c0 h.c1 hoF).mono ?_
    rintro e' w' ⟨rfl, k0, k1, k2, k4⟩
    exact ⟨rfl, main w' k0 k1 (by rw [e]; exact k2) k4⟩
  · rw [List.concat_eq_append] at e
    rw [e, List.length_append] at hoF hfl
    refine (finish_calls n0 b0 b1 vF vV gs g st.vs W hb0 hb1 h.c0 h.c1 hoF h.oV hlen (by simp at hfl; omega) hj hn).mono ?_
    rintro e' w' ⟨rfl, k0, k1, k2, k4⟩
    exact ⟨rfl, main w' k0 k1 (by rw [e, doneF_snoc, List.length_append]; exact k2) k4⟩
theorem ty_ne {b b' : Nat} {c c' : Array Value} {t t' : TypeId} (h : W.heap[b]? = some (.cells c t (0, 0))) (h' : W.heap[b']? = some (.cells c' t' (0, 0))) (ht : t ≠ t') : b ≠ b' := fun e => by
  subst e
  rw [h] at h'
  injection h' with h'
  injection h' with _ h2 _
  exact ht h2
theorem en_ps (h : PSt n0 b0 b1 b2 b3 b4 bs raw st vF vV W) (hb4 : n0 ≤ b4) (un : Nat) :
    PSt n0 b0 b1 b2 b3 b4 bs raw ⟨st.fs, st.vs, un⟩ vF vV (W.setCell ⟨b4, 0, none⟩ (.int .i64 (un : Int))) ∧ Stp n0 W (W.setCell ⟨b4, 0, none⟩ (.int .i64 (un : Int))) := by
  refine ⟨⟨blk_far h.c0 (ty_ne h.c0 h.c4 (by decide)) _, blk_far h.c1 (ty_ne h.c1 h.c4 (by decide)) _, blk_far h.c2 (ty_ne h.c2 h.c4 (by decide)) _, blk_far h.c3 (ty_ne h.c3 h.c4 (by decide)) _, ?_, blk_far h.cs (ty_ne h.cs h.c4 (by decide)) _,
    h.oF.kept (grownBy_setCell' W b4 _) (.inr (own_not h.oF h.c4 (by decide))), h.oV.kept (grownBy_setCell' W b4 _) (.inr (own_not h.oV h.c4 (by decide))), h.ne⟩, (Stp.refl n0 W).setCell hb4 h.c4 (by decide) _ _⟩
  have := blk_set h.c4 0 (.int .i64 (un : Int))
  simpa using this
theorem app_ps (h : PSt n0 b0 b1 b2 b3 b4 bs raw st vF vV W) (hb0 : n0 ≤ b0) (hn : n0 ≤ W.heap.size) {o : Obj} {w2 : World} {v' : Value} {nm : ByteArray}
    (hown' : w2.ownsRow n0 35 2 v' (st.fs.length + 1) (fieldVals st.fs ++ [.string nm, .string ⟨#[]⟩])) (hg : (W.alloc o).grownBy w2 vF.ownBlock) :
    w2.cell? ⟨b0, 0, none⟩ = some vF ∧ w2.frozen? ⟨b0, 0, none⟩ = false ∧ PSt n0 b0 b1 b2 b3 b4 bs raw ⟨st.fs ++ [⟨nm, ⟨#[]⟩⟩], st.vs, st.en⟩ v' vV (w2.setCell ⟨b0, 0, none⟩ v') ∧ Stp n0 W (w2.setCell ⟨b0, 0, none⟩ v') := by
  have kb : ∀ {b : Nat} {c : Array Value} {t : TypeId}, W.heap[b]? = some (.cells c t (0, 0)) → some b ≠ vF.ownBlock → w2.heap[b]? = some (.cells c t (0, 0)) := fun {b c t} hb h2 => by
    have hlt := (Array.getElem?_eq_some_iff.1 hb).1
    rw [hg.block b (by simp; omega) h2]
    exact (Lib.alloc_old W _ b hlt).trans hb
  have k0 := kb h.c0 (Ne.symm (own_not h.oF h.c0 (by decide)))
  have k1 := kb h.c1 (Ne.symm (own_not h.oF h.c1 (by decide)))
  have k2 := kb h.c2 (Ne.symm (own_not h.oF h.c2 (by decide)))
  have k3 := kb h.c3 (Ne.symm (own_not h.oF h.c3 (by decide)))
  have k4 := kb h.c4 (Ne.symm (own_not h.oF h.c4 (by decide)))
  have ks := kb h.cs (Ne.symm (own_not h.oF h.cs (by decide)))
  have hV : w2.ownsRow n0 9 1 vV st.vs.length (strVals st.vs) := by
    refine own_move h.oV (fun g hg2 => ?_)
    obtain ⟨cells, hcc⟩ := own_typed h.oV g hg2
    exact (kb hcc (Ne.symm (own_not h.oF hcc (by decide)))).trans hcc.symm
  have hst : Stp n0 W w2 := ((FrameX.refl _ W).trans (FrameX.of_below ((Below.refl _ W).alloc (Nat.le_refl _) o))).grown hg (fun k hk _ => own_ex h.oF (by decide) hk.symm)
  refine ⟨by simp [World.cell?, k0], by simp [World.frozen?, k0], ⟨?_, blk_far k1 (ty_ne k1 k0 (by decide)) _, blk_far k2 (ty_ne k2 k0 (by decide)) _, blk_far k3 (ty_ne k3 k0 (by decide)) _, blk_far k4 (ty_ne k4 k0 (by decide)) _, blk_far ks (ty_ne ks k0 (by decide)) _, ?_,
    hV.kept (grownBy_setCell' w2 b0 _) (.inr (own_not hV k0 (by decide))), h.ne⟩, hst.setCell hb0 k0 (by decide) _ _⟩
  · have := blk_set k0 0 v'
    simpa using this
  · rw [fieldVals_snoc, List.length_append]
    exact hown'.kept (grownBy_setCell' w2 b0 _) (.inr (own_not hown' k0 (by decide)))
theorem pst_result (h : PSt n0 b0 b1 b2 b3 b4 bs raw st vF vV W) : Kd.R k35 35 W n0 (fun _ => True) vF st.fs := by
  refine ⟨fun _ _ => trivial, fieldVals st.fs, h.oF, fieldVals_length _, fun j p hj => ?_⟩
  have e : ((fieldVals st.fs).drop (j * 2)).take 2 = [.string p.f0, .string p.f1] := by
    have : ∀ (l : List S35) (j : Nat), l[j]? = some p → ((fieldVals l).drop (j * 2)).take 2 = [.string p.f0, .string p.f1] := by
      intro l
      induction l with
      | nil => intro j h; simp at h
      | cons x l ih =>
        intro j hj
        match j, hj with
        | 0, hj =>
          obtain rfl : x = p := by simpa using hj
          rfl
        | j + 1, hj =>
          have := ih j (by simpa using hj)
          have e1 : fieldVals (x :: l) = .string x.f0 :: .string x.f1 :: fieldVals l := rfl
          rw [e1, show (j + 1) * 2 = j * 2 + 1 + 1 by omega]
          exact this
    exact this st.fs j hj
  rw [show k35.sz = 2 from rfl, e]
  exact k35_mkM _ _ _ p
end
theorem cell_of {W : World} {b j : Nat} {c : Array Value} {t : TypeId} {v : Value} (h : W.heap[b]? = some (.cells c t (0, 0))) (hj : c[j]? = some v) : W.cell? ⟨b, j, none⟩ = some v := by simp [World.cell?, h, hj]
theorem frozen_of {W : World} {b j : Nat} {c : Array Value} {t : TypeId} (h : W.heap[b]? = some (.cells c t (0, 0))) : W.frozen? ⟨b, j, none⟩ = false := by simp [World.frozen?, h]
def w0P (w : World) (a0 : ByteArray) : World := (((((w.alloc (Obj.cells #[Value.slice none 0 0] 33)).alloc (Obj.cells #[Value.slice none 0 0] 42)).alloc (Obj.cells #[FIN w.heap.size (w.heap.size + 1)] 1)).alloc (Obj.cells #[ADD (w.heap.size + 1)] 76)).alloc (Obj.cells #[Value.int IntKind.i64 0] 3)).alloc (Obj.cells #[Value.string a0] 9)
theorem w0P_size (w : World) (a0 : ByteArray) : (w0P w a0).heap.size = w.heap.size + 6 := by unfold w0P; simp
theorem w0P_below (w : World) (a0 : ByteArray) : Below w.heap.size w (w0P w a0) := by
  unfold w0P
  exact ((((((Below.refl _ w).alloc (Nat.le_refl _) _).alloc (by simp) _).alloc (by simp <;> omega) _).alloc (by simp <;> omega) _).alloc (by simp <;> omega) _).alloc (by simp <;> omega) _
theorem alloc_at (X : World) (o : Obj) (i : Nat) (h : i = X.heap.size) : (X.alloc o).heap[i]? = some o := by rw [h]; exact World.alloc_heap_new X o
theorem alloc_old' (X : World) (o o' : Obj) (i : Nat) (h : X.heap[i]? = some o') : (X.alloc o).heap[i]? = some o' := (Lib.alloc_old X o i (Array.getElem?_eq_some_iff.1 h).1).trans h
theorem pst_start (w : World) (a0 : ByteArray) :
    PSt w.heap.size w.heap.size (w.heap.size + 1) (w.heap.size + 1 + 1) (w.heap.size + 1 + 1 + 1) (w.heap.size + 1 + 1 + 1 + 1) (w.heap.size + 1 + 1 + 1 + 1 + 1) a0 ⟨[], [], 0⟩ (.slice none 0 0) (.slice none 0 0) (w0P w a0) := by
  unfold w0P
  refine ⟨?_, ?_, ?_, ?_, ?_, ?_, own_nil _ _ _ _, own_nil _ _ _ _, by simp [Value.ownBlock]⟩
  · exact alloc_old' _ _ _ _ (alloc_old' _ _ _ _ (alloc_old' _ _ _ _ (alloc_old' _ _ _ _ (alloc_old' _ _ _ _ (alloc_at _ _ _ rfl)))))
  · exact alloc_old' _ _ _ _ (alloc_old' _ _ _ _ (alloc_old' _ _ _ _ (alloc_old' _ _ _ _ (alloc_at _ _ _ (by simp)))))
  · exact alloc_old' _ _ _ _ (alloc_old' _ _ _ _ (alloc_old' _ _ _ _ (alloc_at _ _ _ (by simp))))
  · exact alloc_old' _ _ _ _ (alloc_old' _ _ _ _ (alloc_at _ _ _ (by simp)))
  · exact alloc_old' _ _ _ _ (alloc_at _ _ _ (by simp))
  · exact alloc_at _ _ _ (by simp)
end Go.Proofs.YtieompfmhnpnaaaGreat.H
end
section
namespace Go.Proofs.YtieompfmhnpnaaaGreat.H
open Go.RowKit Go.Proofs.YtieompfmhnpnaaaGreatW.PrintWords Go.Proofs.YtieompfmhnpnaaaGreatW.PrintLast Go.Proofs.YtieompfmhnpnaaaGreatW.PrintMore
open Go.Maps (Keyed)
set_option linter.unusedVariables false
set_option linter.unusedSimpArgs false
def pieceNo (s : ByteArray) (i : Nat) : ByteArray := (piecesOf s).getD i ⟨#[]⟩
theorem piecesAt_length (s : ByteArray) : ∀ (k fr : Nat) (q : Bool) (i : Nat), (piecesAt s k fr q i).length ≤ k + 1
  | 0, fr, q, i => by simp [piecesAt]
  | k + 1, fr, q, i => by
    rw [piecesAt]
    have h1 := piecesAt_length s k fr q (i + 2)
    have h2 := piecesAt_length s k fr (!q) (i + 1)
    have h3 := piecesAt_length s k (i + 1) q (i + 1)
    have h4 := piecesAt_length s k fr q (i + 1)
    split
    · split
      · omega
      · split
        · omega
        · split
          · rw [List.length_cons]; omega
          · omega
    · simp
theorem piecesAt_size (s : ByteArray) : ∀ (k fr : Nat) (q : Bool) (i : Nat), ∀ x ∈ piecesAt s k fr q i, x.size ≤ s.size
  | 0, fr, q, i => by
    intro x hx
    obtain rfl : x = s.extract fr s.size := by simpa [piecesAt] using hx
    simp
  | k + 1, fr, q, i => by
    rw [piecesAt]
    split
    · split
      · exact piecesAt_size s k fr q (i + 2)
      · split
        · exact piecesAt_size s k fr (!q) (i + 1)
        · split
          · intro x hx
            rcases List.mem_cons.1 hx with rfl | hx
            · simp; omega
            · exact piecesAt_size s k (i + 1) q (i + 1) x hx
          · exact piecesAt_size s k fr q (i + 1)
    · intro x hx
      obtain rfl : x = s.extract fr s.size := by simpa using hx
      simp
theorem pieceNo_size (s : ByteArray) (i : Nat) : (pieceNo s i).size ≤ s.size := by
  unfold pieceNo
  rw [List.getD_eq_getElem?_getD]
  cases h : (piecesOf s)[i]? with
  | none => exact Nat.zero_le _
  | some x => exact piecesAt_size s _ _ _ _ x (List.mem_of_getElem? h)
theorem pieces_stops (n bs : Nat) (s : ByteArray) (hs : s.size ≤ 1099511627776) (w : World) (hb : bs < w.heap.size) (hc : w.heap[bs]? = some (.cells #[.string s] 9 (0, 0))) :
    SeqStopsK Fence.wide n Tryz.prog 70 #[.pointer (some ⟨bs, 0, none⟩)] (fun i : Nat => #[Value.string (pieceNo s i)]) (fun W W' => W'.heap[bs]? = W.heap[bs]?) (fun xs => xs.map (pieceNo s) = piecesOf s) (fun pre => pre.map (pieceNo s) <+: piecesOf s) (piecesOf s).length w := fun l J Jx W hW hJ hJx hY h0 => by
  refine (pieces1_in n l bs s hs (fun pre W => ∃ is : List Nat, is.map (pieceNo s) = pre ∧ J is W) (fun pre W => ∃ is : List Nat, is.map (pieceNo s) = pre ∧ Jx is W) ?_ W ((hW.block bs hb).trans hc) ⟨[], rfl, h0⟩).mono ?_
  · rintro pre x W1 hx ⟨is, rfl, hj⟩ hl
    obtain ⟨i, hi, rfl⟩ := List.getElem_of_mem hx
    have e : pieceNo s i = (piecesOf s)[i] := by unfold pieceNo; rw [List.getD_eq_getElem?_getD, List.getElem?_eq_getElem hi]; rfl
    rw [List.length_map] at hl
    obtain ⟨fn, tmps, assign, body, hy, hR⟩ := hY is i W1 hj hl
    dsimp only at hy
    rw [e] at hy
    refine ⟨fn, tmps, assign, body, hy, hR.mono ?_⟩
    rintro e' W' (⟨rfl, h1, h2⟩ | ⟨rfl, h1⟩)
    · exact .inl ⟨rfl, ⟨is ++ [i], by simp [e], h1⟩, h2⟩
    · exact .inr ⟨rfl, is ++ [i], by simp [e], h1⟩
  · rintro e W' ⟨hv, ⟨ys, rfl, is, hi, hj⟩ | ⟨pre, hp, is, rfl, hj⟩⟩
    · exact ⟨hv, .inl ⟨is, hi, hj⟩⟩
    · exact ⟨hv, .inr ⟨is, hp, hj⟩⟩
attribute [local go_sem] Oper.semAt_some
attribute [local go_sem] wide_fn wide_depth wide_fn_r wide_depth_r
theorem pieces_in (n : Nat) (s : ByteArray) (w : World) :
    CallsIn Fence.wide n Tryz.prog 39 #[.string s] w fun e w' => e = .returned (.func (.func 70) #[] #[.pointer (some ⟨w.heap.size, 0, none⟩)]) ∧ w' = w.alloc (.cells #[.string s] 9) := by
  refine callsIn_of_wp Tryz.func39 rfl trivial ?_ rfl
  simp only [Tryz.ntmps39, List.size_toArray, List.length_cons, List.length_nil, Nat.reduceAdd, Nat.reduceSub, Array.replicate_succ, Array.replicate_zero, List.push_toArray, List.append_toArray, List.nil_append, List.cons_append]
  gi_wp2
  go_ret
  exact ⟨rfl, rfl⟩
structure QP where
  main : ByteArray
  first : Bool
  ps : List S25
def namesOf (l : List S25) : List ByteArray := l.map (·.f0)
theorem lowS_size (s : ByteArray) : (lowS s).size = s.size := by
  show (lowS s).data.size = s.data.size
  unfold lowS
  simp
def pnameS (x : ByteArray) : ByteArray := lowS (trimS (cutAt x 61).1)
def inB (x : ByteArray) (ns : List ByteArray) : Bool := ns.any fun y => bl y == bl x
def stepQ (st : QP) (x : ByteArray) : QP :=
  if st.first = true then ⟨trimS x, false, st.ps⟩
  else if (cutAt x 61).2.2 = false ∨ isTokenB (pnameS x) = false ∨ inB (pnameS x) (namesOf st.ps) = true then st
  else if (valueS (trimS (cutAt x 61).2.1)).2 = true then ⟨st.main, st.first, st.ps ++ [⟨pnameS x, (valueS (trimS (cutAt x 61).2.1)).1⟩]⟩
  else st
def foldQ (st : QP) (xs : List ByteArray) : QP := xs.foldl stepQ st
def paramsS (s : ByteArray) : ByteArray × List S25 :=
  let st := foldQ ⟨⟨#[]⟩, true, []⟩ (piecesOf s)
  (st.main, st.ps)
theorem foldQ_snoc (st : QP) (xs : List ByteArray) (x : ByteArray) : foldQ st (xs ++ [x]) = stepQ (foldQ st xs) x := by simp [foldQ]
theorem stepQ_len (st : QP) (x : ByteArray) : (stepQ st x).ps.length ≤ st.ps.length + 1 := by
  unfold stepQ
  split
  · exact Nat.le_succ _
  · split
    · exact Nat.le_succ _
    · split
      · simp
      · exact Nat.le_succ _
theorem foldQ_len (st : QP) (xs : List ByteArray) : (foldQ st xs).ps.length ≤ st.ps.length + xs.length := by
  induction xs generalizing st with
  | nil => exact Nat.le_refl _
  | cons x xs ih =>
    have h1 := ih (stepQ st x)
    have h2 := stepQ_len st x
    show (foldQ (stepQ st x) xs).ps.length ≤ _
    rw [List.length_cons]
    omega
abbrev DQ := DataW Unit
def seenD (ns : List ByteArray) : DQ := ns.foldl (fun D x => D.put (.string x.data.toList) (.lit (.bool true))) (.map [])
theorem seenD_snoc (ns : List ByteArray) (x : ByteArray) : seenD (ns ++ [x]) = (seenD ns).put (.string x.data.toList) (.lit (.bool true)) := by simp [seenD]
theorem seenD_isMap (ns : List ByteArray) : Maps.IsMap (seenD ns) := by
  rcases List.eq_nil_or_concat ns with rfl | ⟨ms, x, rfl⟩
  · exact Maps.isMap_empty
  · rw [List.concat_eq_append, seenD_snoc]
    exact (seenD_isMap ms).put _ _
termination_by ns.length
decreasing_by all_goals (subst_vars; simp)
theorem seenD_at (ns : List ByteArray) (x : ByteArray) : (seenD ns).atKey (.string x.data.toList) (.lit (.bool false)) = .lit (.bool (inB x ns)) := by
  rcases List.eq_nil_or_concat ns with rfl | ⟨ms, y, rfl⟩
  · rfl
  · rw [List.concat_eq_append, seenD_snoc]
    by_cases e : x = y
    · subst e
      rw [Maps.atKey_put_same (seenD_isMap ms) (by exact trivial)]
      simp [inB]
    · rw [Maps.atKey_put_other (fun h => e (by
        injection h with h
        exact ByteArray.ext (Array.toList_inj.1 h)))]
      rw [seenD_at ms x]
      have e2 : (bl y == bl x) = false := by
        rw [beq_eq_false_iff_ne]
        exact fun h => e (bl_inj h).symm
      unfold inB
      rw [List.any_append]
      simp only [List.any_cons, List.any_nil, e2, Bool.or_false]
termination_by ns.length
decreasing_by all_goals (subst_vars; simp)
theorem K9 : Keyed Tryz.prog 9 := Maps.string_keyed Tryz.underlying9
def paramVals (l : List S25) : List Value := l.flatMap fun f => [.string f.f0, .string f.f1]
theorem paramVals_length (l : List S25) : (paramVals l).length = l.length * 2 := by
  induction l with
  | nil => rfl
  | cons x l ih => unfold paramVals at *; simp at *; omega
theorem paramVals_snoc (l : List S25) (f : S25) : paramVals (l ++ [f]) = paramVals l ++ [.string f.f0, .string f.f1] := by simp [paramVals]
structure QSt (n0 b0 b1 b2 bm b3 bs : Nat) (raw : ByteArray) (st : QP) (ns : List ByteArray) (vP : Value) (W : World) : Prop where
  c0 : W.heap[b0]? = some (.cells #[.string st.main] 9 (0, 0))
  c1 : W.heap[b1]? = some (.cells #[.bool st.first] 4 (0, 0))
  c2 : W.heap[b2]? = some (.cells #[vP] 22 (0, 0))
  c3 : W.heap[b3]? = some (.cells #[.map (some bm)] 54 (0, 0))
  cs : W.heap[bs]? = some (.cells #[.string raw] 9 (0, 0))
  oP : W.ownsRow n0 25 2 vP st.ps.length (paramVals st.ps)
  mp : W.ownsMap Tryz.prog 9 (plainElem Tryz.prog 4) bm ns.length (seenD ns)
section
variable {n0 b0 b1 b2 bm b3 bs : Nat} {raw : ByteArray} {st : QP} {ns : List ByteArray} {vP : Value} {W : World}
theorem qst_own (X Y : World) (row : Option Nat) (h : QSt n0 b0 b1 b2 bm b3 bs raw st ns vP X) (hg : X.grownBy Y row) (hr : ∀ r, row = some r → bm < r ∧ ∃ o : Obj, X.heap[r]? = some o ∧ o.isCells = false) : QSt n0 b0 b1 b2 bm b3 bs raw st ns vP Y := by
  have k : ∀ {b : Nat} {c : Array Value} {t : TypeId}, X.heap[b]? = some (.cells c t (0, 0)) → Y.heap[b]? = some (.cells c t (0, 0)) := fun {b c t} hb =>
    (grownBy_keeps_cells hg (fun r e => (hr r e).2) hb rfl).trans hb
  have ko : ∀ {e : TypeId} {size n : Nat} {v : Value} {xs : List Value}, X.ownsRow n0 e size v n xs → Y.ownsRow n0 e size v n xs := fun {e size n v xs} ho => by
    refine ho.kept hg ?_
    cases hv : v.ownBlock with
    | none => exact .inl rfl
    | some g =>
      refine .inr (fun e' => ?_)
      obtain ⟨cells, hc⟩ := own_typed ho g hv
      obtain ⟨_, o, h1, h2⟩ := hr g e'.symm
      rw [hc] at h1
      cases h1
      cases h2
  exact ⟨k h.c0, k h.c1, k h.c2, k h.c3, k h.cs, ko h.oP, h.mp.kept hg (fun e => by have := (hr bm e.symm).1; omega)⟩
theorem qst_below {w' : World} (h : QSt n0 b0 b1 b2 bm b3 bs raw st ns vP W) (hb : Below W.heap.size W w') : QSt n0 b0 b1 b2 bm b3 bs raw st ns vP w' :=
  qst_own W w' none h (grown_of_below hb none) (fun r e => by cases e)
theorem keeps_below {w' : World} (B : Nat) (hb : Below W.heap.size W w') : KeepsFrom B W w' := KeepsFrom.of_grownBy (grown_of_below hb none) (fun r e => by cases e)
theorem qst_set {b : Nat} {c : Array Value} {t : TypeId} {v : Value} {st' : QP} (h : QSt n0 b0 b1 b2 bm b3 bs raw st ns vP W) (hc : W.heap[b]? = some (.cells c t (0, 0))) (ht : t ≠ 25)
    (k0 : (W.setCell ⟨b, 0, none⟩ v).heap[b0]? = some (.cells #[.string st'.main] 9 (0, 0))) (k1 : (W.setCell ⟨b, 0, none⟩ v).heap[b1]? = some (.cells #[.bool st'.first] 4 (0, 0)))
    (k2 : b ≠ b2) (k3 : b ≠ b3) (ks : b ≠ bs) (hp : st'.ps = st.ps) : QSt n0 b0 b1 b2 bm b3 bs raw st' ns vP (W.setCell ⟨b, 0, none⟩ v) :=
  ⟨k0, k1, blk_far h.c2 (Ne.symm k2) _, blk_far h.c3 (Ne.symm k3) _, blk_far h.cs (Ne.symm ks) _, by rw [hp]; exact h.oP.kept (grownBy_setCell' W b _) (.inr (own_not h.oP hc ht)),
    h.mp.kept (grownBy_setCell' W b _) (fun e => by
      injection e with e
      obtain ⟨es, clock, hb, _⟩ := h.mp
      rw [e, hc] at hb
      cases hb)⟩
theorem qst_app (h : QSt n0 b0 b1 b2 bm b3 bs raw st ns vP W) (hb2 : n0 ≤ b2) (hn : n0 ≤ W.heap.size) {o : Obj} {w2 : World} {v' : Value} {nm v : ByteArray} (B : Nat)
    (hown' : w2.ownsRow n0 25 2 v' (st.ps.length + 1) (paramVals st.ps ++ [.string nm, .string v])) (hg : (W.alloc o).grownBy w2 vP.ownBlock) :
    w2.cell? ⟨b2, 0, none⟩ = some vP ∧ w2.frozen? ⟨b2, 0, none⟩ = false ∧ QSt n0 b0 b1 b2 bm b3 bs raw ⟨st.main, st.first, st.ps ++ [⟨nm, v⟩]⟩ ns v' (w2.setCell ⟨b2, 0, none⟩ v') ∧ Below n0 W (w2.setCell ⟨b2, 0, none⟩ v') ∧ KeepsFrom B W (w2.setCell ⟨b2, 0, none⟩ v') := by
  have kb : ∀ {b : Nat} {c : Array Value} {t : TypeId}, W.heap[b]? = some (.cells c t (0, 0)) → some b ≠ vP.ownBlock → w2.heap[b]? = some (.cells c t (0, 0)) := fun {b c t} hb h2 => by
    have hlt := (Array.getElem?_eq_some_iff.1 hb).1
    rw [hg.block b (by simp; omega) h2]
    exact (Lib.alloc_old W _ b hlt).trans hb
  have k0 := kb h.c0 (Ne.symm (own_not h.oP h.c0 (by decide)))
  have k1 := kb h.c1 (Ne.symm (own_not h.oP h.c1 (by decide)))
  have k2 := kb h.c2 (Ne.symm (own_not h.oP h.c2 (by decide)))
  have k3 := kb h.c3 (Ne.symm (own_not h.oP h.c3 (by decide)))
  have ks := kb h.cs (Ne.symm (own_not h.oP h.cs (by decide)))
  have rowcells : ∀ j o', vP.ownBlock = some j → (W.alloc o).heap[j]? = some o' → o'.isCells = true := fun j o' hj ho => by
    obtain ⟨cells, hc⟩ := own_typed (h.oP.alloc o) j hj
    rw [hc] at ho
    cases ho
    rfl
  have hm : w2.ownsMap Tryz.prog 9 (plainElem Tryz.prog 4) bm ns.length (seenD ns) := by
    refine (h.mp.alloc o).kept hg (fun e => ?_)
    obtain ⟨es, clock, hb, _⟩ := h.mp.alloc o
    have := rowcells bm _ e.symm hb
    cases this
  refine ⟨by simp [World.cell?, k2], by simp [World.frozen?, k2], ⟨blk_far k0 (ty_ne k0 k2 (by decide)) _, blk_far k1 (ty_ne k1 k2 (by decide)) _, ?_, blk_far k3 (ty_ne k3 k2 (by decide)) _, blk_far ks (ty_ne ks k2 (by decide)) _, ?_, ?_⟩, ?_, ?_⟩
  · have := blk_set k2 0 v'
    simpa using this
  · rw [paramVals_snoc, List.length_append]
    exact hown'.kept (grownBy_setCell' w2 b2 _) (.inr (own_not hown' k2 (by decide)))
  · exact hm.kept (grownBy_setCell' w2 b2 _) (fun e => by
      injection e with e
      obtain ⟨es, clock, hb, _⟩ := hm
      rw [e, k2] at hb
      cases hb)
  · refine Below.setCell ?_ (p := ⟨b2, 0, none⟩) hb2 v'
    refine (((Below.refl n0 W).alloc hn o).grown hg (by simp; omega) (fun j ej => own_base (h.oP.alloc o) j ej))
  · refine (((KeepsOthers.alloc W o).trans (KeepsOthers.of_grownBy hg rowcells)).trans (KeepsOthers.setCell _ _ _)).from B
theorem qst_map (h : QSt n0 b0 b1 b2 bm b3 bs raw st ns vP W) (hbm : n0 ≤ bm) (hn : n0 ≤ W.heap.size) {w2 : World} {nm : ByteArray} (B : Nat) (hB : bm < B)
    (hm : w2.ownsMap Tryz.prog 9 (plainElem Tryz.prog 4) bm (ns.length + 1) ((seenD ns).put (.string nm.data.toList) (.lit (.bool true)))) (hg : W.grownBy w2 (some bm)) :
    QSt n0 b0 b1 b2 bm b3 bs raw st (ns ++ [nm]) vP w2 ∧ Below n0 W w2 ∧ KeepsFrom B W w2 := by
  have kb : ∀ {b : Nat} {c : Array Value} {t : TypeId}, W.heap[b]? = some (.cells c t (0, 0)) → w2.heap[b]? = some (.cells c t (0, 0)) := fun {b c t} hb =>
    (hg.block b (Array.getElem?_eq_some_iff.1 hb).1 (fun e => by
      injection e with e
      obtain ⟨es, clock, h2, _⟩ := h.mp
      rw [← e, hb] at h2
      cases h2)).trans hb
  refine ⟨⟨kb h.c0, kb h.c1, kb h.c2, kb h.c3, kb h.cs, ?_, ?_⟩, (Below.refl n0 W).grown hg hn (fun k e => by injection e with e; omega), KeepsFrom.of_grownBy hg (fun j e => by injection e with e; omega)⟩
  · refine own_move h.oP (fun g hg2 => ?_)
    obtain ⟨cells, hcc⟩ := own_typed h.oP g hg2
    exact (kb hcc).trans hcc.symm
  · rw [seenD_snoc, List.length_append]
    exact hm
theorem qst_first (h : QSt n0 b0 b1 b2 bm b3 bs raw st ns vP W) (hb0 : n0 ≤ b0) (hb1 : n0 ≤ b1) (hbs : b0 ≠ bs) (m : ByteArray) (B : Nat) :
    QSt n0 b0 b1 b2 bm b3 bs raw ⟨m, false, st.ps⟩ ns vP ((W.setCell ⟨b0, 0, none⟩ (.string m)).setCell ⟨b1, 0, none⟩ (.bool false)) ∧ Below n0 W ((W.setCell ⟨b0, 0, none⟩ (.string m)).setCell ⟨b1, 0, none⟩ (.bool false)) ∧
      KeepsFrom B W ((W.setCell ⟨b0, 0, none⟩ (.string m)).setCell ⟨b1, 0, none⟩ (.bool false)) := by
  have n01 : b0 ≠ b1 := ty_ne h.c0 h.c1 (by decide)
  have s0 : (W.setCell ⟨b0, 0, none⟩ (.string m)).heap[b0]? = some (.cells #[.string m] 9 (0, 0)) := by
    have := blk_set h.c0 0 (.string m)
    simpa using this
  have h1 : QSt n0 b0 b1 b2 bm b3 bs raw ⟨m, st.first, st.ps⟩ ns vP (W.setCell ⟨b0, 0, none⟩ (.string m)) :=
    qst_set h h.c0 (by decide) s0 (blk_far h.c1 (Ne.symm n01) _) (ty_ne h.c0 h.c2 (by decide)) (ty_ne h.c0 h.c3 (by decide)) hbs rfl
  have s1 : ((W.setCell ⟨b0, 0, none⟩ (.string m)).setCell ⟨b1, 0, none⟩ (.bool false)).heap[b1]? = some (.cells #[.bool false] 4 (0, 0)) := by
    have := blk_set h1.c1 0 (.bool false)
    simpa using this
  refine ⟨qst_set h1 h1.c1 (by decide) (blk_far h1.c0 n01 _) s1 (ty_ne h1.c1 h1.c2 (by decide)) (ty_ne h1.c1 h1.c3 (by decide)) (ty_ne h1.c1 h1.cs (by decide)) rfl,
    ((Below.refl n0 W).setCell (p := ⟨b0, 0, none⟩) hb0 _).setCell (p := ⟨b1, 0, none⟩) hb1 _, ((KeepsOthers.setCell _ _ _).trans (KeepsOthers.setCell _ _ _)).from B⟩
set_option maxRecDepth 100000 in
theorem qst_look (h : QSt n0 b0 b1 b2 bm b3 bs raw st ns vP W) (nm : ByteArray) (hs : nm.size ≤ maxLen) :
    (Instr.lookup 54 (.map (some bm)) (.string nm) false).run Tryz.prog W = .ok (.bool (inB nm ns)) W := by
  obtain ⟨v, ps, hrun, hv⟩ := h.mp.lookup (t := 54) K9 Tryz.underlying54 (Tryz.zeroValue4 W) (plainElem_bool Tryz.underlying4 false) (WideMaps.keyOf_string_mk Tryz.underlying9 hs)
  rw [seenD_at] at hv
  have : v = .bool (inB nm ns) := by
    unfold plainElem at hv
    rw [Tryz.underlying4] at hv
    cases v <;> simp at hv
    rw [hv.1]
  rw [hrun, this]
theorem qst_result (h : QSt n0 b0 b1 b2 bm b3 bs raw st ns vP W) : Kd.R k25 25 W n0 (fun _ => True) vP st.ps := by
  refine ⟨fun _ _ => trivial, paramVals st.ps, h.oP, paramVals_length _, fun j p hj => ?_⟩
  have e : ((paramVals st.ps).drop (j * 2)).take 2 = [.string p.f0, .string p.f1] := by
    have : ∀ (l : List S25) (j : Nat), l[j]? = some p → ((paramVals l).drop (j * 2)).take 2 = [.string p.f0, .string p.f1] := by
      intro l
      induction l with
      | nil => intro j h; simp at h
      | cons x l ih =>
        intro j hj
        match j, hj with
        | 0, hj =>
          obtain rfl : x = p := by simpa using hj
          rfl
        | j + 1, hj =>
          have := ih j (by simpa using hj)
          have e1 : paramVals (x :: l) = .string x.f0 :: .string x.f1 :: paramVals l := rfl
          rw [e1, show (j + 1) * 2 = j * 2 + 1 + 1 by omega]
          exact this
    exact this st.ps j hj
  rw [show k25.sz = 2 from rfl, e]
  exact k25_mkM _ _ _ p
end
def w0Q (w : World) (a0 : ByteArray) : World := (((((w.alloc (Obj.cells #[Value.string ⟨#[]⟩] 9)).alloc (Obj.cells #[Value.bool true] 4)).alloc (Obj.cells #[Value.slice none 0 0] 22)).alloc (Obj.map #[] 0)).alloc (Obj.cells #[Value.map (some (w.heap.size + 1 + 1 + 1))] 54)).alloc (Obj.cells #[Value.string a0] 9)
theorem w0Q_size (w : World) (a0 : ByteArray) : (w0Q w a0).heap.size = w.heap.size + 6 := by unfold w0Q; simp
theorem w0Q_below (w : World) (a0 : ByteArray) : Below w.heap.size w (w0Q w a0) := by
  unfold w0Q
  exact ((((((Below.refl _ w).alloc (Nat.le_refl _) _).alloc (by simp) _).alloc (by simp <;> omega) _).alloc (by simp <;> omega) _).alloc (by simp <;> omega) _).alloc (by simp <;> omega) _
theorem qst_start (w : World) (a0 : ByteArray) :
    QSt w.heap.size w.heap.size (w.heap.size + 1) (w.heap.size + 1 + 1) (w.heap.size + 1 + 1 + 1) (w.heap.size + 1 + 1 + 1 + 1) (w.heap.size + 1 + 1 + 1 + 1 + 1) a0 ⟨⟨#[]⟩, true, []⟩ [] (.slice none 0 0) (w0Q w a0) := by
  unfold w0Q
  refine ⟨?_, ?_, ?_, ?_, ?_, own_nil _ _ _ _, ?_⟩
  · exact alloc_old' _ _ _ _ (alloc_old' _ _ _ _ (alloc_old' _ _ _ _ (alloc_old' _ _ _ _ (alloc_old' _ _ _ _ (alloc_at _ _ _ rfl)))))
  · exact alloc_old' _ _ _ _ (alloc_old' _ _ _ _ (alloc_old' _ _ _ _ (alloc_old' _ _ _ _ (alloc_at _ _ _ (by simp)))))
  · exact alloc_old' _ _ _ _ (alloc_old' _ _ _ _ (alloc_old' _ _ _ _ (alloc_at _ _ _ (by simp))))
  · exact alloc_old' _ _ _ _ (alloc_at _ _ _ (by simp))
  · exact alloc_at _ _ _ (by simp)
  · have := World.ownsMap_made (H := Unit) (((w.alloc (Obj.cells #[Value.string ⟨#[]⟩] 9)).alloc (Obj.cells #[Value.bool true] 4)).alloc (Obj.cells #[Value.slice none 0 0] 22)) Tryz.prog 9 (plainElem Tryz.prog 4)
    simp only [World.size_alloc] at this
    exact (this.alloc _).alloc _
end Go.Proofs.YtieompfmhnpnaaaGreat.H
namespace Go.Proofs.YtieompfmhnpnaaaGreat.H
open Go.RowKit Go.Proofs.YtieompfmhnpnaaaGreatW.PrintWords Go.Proofs.YtieompfmhnpnaaaGreatW.PrintLast Go.Proofs.YtieompfmhnpnaaaGreatW.PrintMore
set_option linter.unusedVariables false
set_option linter.unusedSimpArgs false
attribute [local go_sem] Oper.semAt_some
attribute [local go_sem] wide_fn wide_depth wide_fn_r wide_depth_r
def header_Params.f (a0 : ByteArray) : Option (ByteArray × List S25) := if a0.size ≤ 8388608 then some (paramsS a0) else none
def InvQ (n0 b0 b1 b2 bm b3 bs : Nat) (raw : ByteArray) (w : World) (pre : List Nat) (W : World) : Prop :=
  (∃ vP, QSt n0 b0 b1 b2 bm b3 bs raw (foldQ ⟨⟨#[]⟩, true, []⟩ (pre.map (pieceNo raw))) (namesOf (foldQ ⟨⟨#[]⟩, true, []⟩ (pre.map (pieceNo raw))).ps) vP W) ∧ Below n0 w W
set_option maxRecDepth 100000 in
set_option maxHeartbeats 4000000 in
theorem header_Params.calls (a0 : ByteArray) (r1 : ByteArray) (r2 : List S25) (w : World) (h : header_Params.f a0 = some (r1, r2)) :
    Calls Tryz.prog 11 #[.string a0] w fun e w' => ∃ v0_ : Value, e = .returned (.tuple #[.string r1, v0_]) ∧ Kd.R k25 25 w' w.heap.size (fun _ => True) v0_ r2 ∧ Below w.heap.size w w' := by
  unfold header_Params.f at h
  split at h
  case isFalse => cases h
  case isTrue hsz =>
  injection h with h
  refine callsIn_wide.1 (callsIn_of_wp_marks (n := 10) Tryz.func11 rfl trivial ?_ rfl)
  simp only [Tryz.ntmps11, List.size_toArray, List.length_cons, List.length_nil, Nat.reduceAdd, Nat.reduceSub, Array.replicate_succ, Array.replicate_zero, List.push_toArray, List.append_toArray, List.nil_append, List.cons_append]
  have hmk : ∀ W : World, (Instr.makeMap 54 none).run Tryz.prog W = .ok (.map (some W.heap.size)) (W.alloc (.map #[] 0)) := fun W => run_makeMap 54 W
  gi_wp2_with (gi_at_call 39; refine (pieces_in _ _ _).mono ?_; rintro e w' ⟨rfl, rfl⟩)
  obtain ⟨W0, hW0⟩ : ∃ W0, w0Q w a0 = W0 := ⟨_, rfl⟩
  have hs0 := w0Q_size w a0
  have hB0 := w0Q_below w a0
  have hP0 := qst_start w a0
  rw [hW0] at hs0 hB0 hP0
  unfold w0Q at hW0
  rw [hW0]
  clear hW0 hmk
  have hN : (piecesOf a0).length ≤ 8388610 := Nat.le_trans (piecesAt_length a0 _ _ _ _) (by omega)
  refine wpIn_rangeFunc_ownH rfl (by decide) (gf := 70) (lb := #[.pointer (some ⟨w.heap.size + 1 + 1 + 1 + 1 + 1, 0, none⟩)]) rfl trivial (enters_of Tryz.func70 (by kernel_rfl) rfl)
    (encs := fun i : Nat => #[Value.string (pieceNo a0 i)]) (pieces_stops 9 (w.heap.size + 1 + 1 + 1 + 1 + 1) a0 (by omega) W0 (by omega) hP0.cs) (Kp := fun W W' => W'.heap[w.heap.size + 1 + 1 + 1 + 1 + 1]? = W.heap[w.heap.size + 1 + 1 + 1 + 1 + 1]?) (fun {A B C} h k => Eq.trans k h) (fun W l o o' hl ho _ _ => World.putObj_heap_other (by omega)) (Below.refl _ _) (fun _ => rfl)
    (InvQ w.heap.size w.heap.size (w.heap.size + 1) (w.heap.size + 1 + 1) (w.heap.size + 1 + 1 + 1) (w.heap.size + 1 + 1 + 1 + 1) (w.heap.size + 1 + 1 + 1 + 1 + 1) a0 w) (fun _ _ _ => False)
    ?ownI (fun _ _ _ _ _ h _ _ => h) ⟨⟨_, hP0⟩, hB0⟩
    (fun x a' W => a' = { tmps := #[Value.string a0, undef, Value.string ⟨#[]⟩, Value.slice none 0 0, Value.pointer (some ⟨w.heap.size, 0, none⟩), Value.pointer (some ⟨w.heap.size + 1, 0, none⟩), Value.pointer (some ⟨w.heap.size + 1 + 1, 0, none⟩), Value.pointer (some ⟨w.heap.size + 1 + 1 + 1 + 1, 0, none⟩), Value.string (pieceNo a0 x), undef, undef, undef, undef, undef, Value.map (some (w.heap.size + 1 + 1 + 1)), Value.string a0, Value.func (Fn.func 70) #[] #[Value.pointer (some ⟨w.heap.size + 1 + 1 + 1 + 1 + 1, 0, none⟩)], Value.string (pieceNo a0 x), undef, undef, undef, undef, undef, undef, undef, undef, undef, undef, undef, undef, undef, undef, undef, undef, undef, undef, undef, undef, undef, undef, undef, undef, undef, undef, undef, undef, undef, undef, undef, undef, undef, undef, undef, undef, undef, undef, undef, undef, undef], defers := [] })
    (fun _ _ _ _ _ _ h _ _ => h) ?assign ?body ?done (fun _ _ _ _ _ _ h _ => h.elim)
  case ownI =>
    refine OwnFrom.and (fun pre X Y row hs hg hr => ?_) (ownFrom_below (Nat.le_refl _) (by omega))
    obtain ⟨vP, h1⟩ := hs
    exact ⟨vP, qst_own X Y row h1 hg (fun r e => ⟨by have := (hr r e).1; omega, (hr r e).2⟩)⟩
  case assign =>
    rintro l pre x W K hI hK
    gi_wp2
    exact hK _ _ (KeepsFrom.refl _ _) rfl hI rfl
  case body =>
    rintro l pre x a' W hl ⟨r, hr⟩ ⟨⟨vP, hP⟩, hB⟩ rfl hlt
    have hlen := foldQ_len ⟨⟨#[]⟩, true, []⟩ (pre.map (pieceNo a0))
    have hsnoc := foldQ_snoc ⟨⟨#[]⟩, true, []⟩ (pre.map (pieceNo a0)) (pieceNo a0 x)
    have hmap : (pre ++ [x]).map (pieceNo a0) = pre.map (pieceNo a0) ++ [pieceNo a0 x] := by simp
    rw [← hmap] at hsnoc
    clear hmap
    rw [List.length_map] at hlen
    generalize foldQ ⟨⟨#[]⟩, true, []⟩ (pre.map (pieceNo a0)) = st at hP hlen hsnoc
    have hps : st.ps.length ≤ 8388610 := by simp at hlen; omega
    have hpc := Nat.le_trans (pieceNo_size a0 x) hsz
    have hn0 := hB.size
    have goes : ∀ W3 vP3, Below w.heap.size W W3 → KeepsFrom W0.heap.size W W3 → QSt w.heap.size w.heap.size (w.heap.size + 1) (w.heap.size + 1 + 1) (w.heap.size + 1 + 1 + 1) (w.heap.size + 1 + 1 + 1 + 1) (w.heap.size + 1 + 1 + 1 + 1 + 1) a0 (stepQ st (pieceNo a0 x)) (namesOf (stepQ st (pieceNo a0 x)).ps) vP3 W3 → ∀ act, ownPostG W0.heap.size (fun W W' => W'.heap[w.heap.size + 1 + 1 + 1 + 1 + 1]? = W.heap[w.heap.size + 1 + 1 + 1 + 1 + 1]?) (InvQ w.heap.size w.heap.size (w.heap.size + 1) (w.heap.size + 1 + 1) (w.heap.size + 1 + 1 + 1) (w.heap.size + 1 + 1 + 1 + 1) (w.heap.size + 1 + 1 + 1 + 1 + 1) a0 w) (fun _ _ _ => False) (pre ++ [x]) W .normal act W3 := by
      intro W3 vP3 h1 h2 h3 act
      refine ⟨h2, h3.cs.trans hP.cs.symm, ⟨vP3, ?_⟩, hB.trans h1⟩
      rw [hsnoc]
      exact h3
    clear hsnoc hlen
    generalize pieceNo a0 x = pc at goes hpc
    obtain ⟨AF, cF, rfl⟩ := own_slice hP.oP
    have cP0 : W.cell? ⟨w.heap.size, 0, none⟩ = some (.string st.main) := cell_of hP.c0 rfl
    have fP0 : W.frozen? ⟨w.heap.size, 0, none⟩ = false := frozen_of hP.c0
    have cP1 : W.cell? ⟨w.heap.size + 1, 0, none⟩ = some (.bool st.first) := cell_of hP.c1 rfl
    have fP1 : W.frozen? ⟨w.heap.size + 1, 0, none⟩ = false := frozen_of hP.c1
    have HP := Aside0.mk hP
    have GO := Aside0.mk goes
    clear goes
    obtain ⟨k1, hk1⟩ := (trim_ev pc (by omega)).rounds
    have HK1 := Aside0.mk hk1
    clear hk1
    by_cases z : st.first = true
    · rw [z] at cP1
      have E : stepQ st pc = ⟨trimS pc, false, st.ps⟩ := by unfold stepQ; rw [if_pos z]
      have HE := Aside0.mk E
      clear E z hP
      gi_wp2_with fail
      refine (CallsIn.inRound l (callsIn_wide.2 (text_Trim.calls k1 _ _ _ HK1.out))).mono ?_
      rintro e w1 ⟨rfl, ⟨nd, rfl⟩⟩
      gi_wp2_with fail
      obtain ⟨q1, q2, q3⟩ := qst_first (qst_below HP.out (pw_below_drewN (Below.refl _ W) nd)) (Nat.le_refl _) (by omega) (by omega) (trimS pc) W0.heap.size
      refine GO.out _ (.slice AF st.ps.length cF) ((pw_below_drewN (Below.refl _ W) nd).trans q2) ((keeps_below _ (pw_below_drewN (Below.refl W.heap.size W) nd)).trans q3) ?_ _
      rw [HE.out]
      exact q1
    · have z' : st.first = false := by simpa using z
      rw [z'] at cP1
      obtain ⟨n0, re, fd, hcut⟩ : ∃ n0 re fd, cutAt pc 61 = (n0, re, fd) := ⟨_, _, _, rfl⟩
      have hsz2 := cutAt_two pc 61
      rw [hcut] at hsz2
      dsimp only at hsz2
      obtain ⟨hs1, hs2⟩ := hsz2
      have hcf : strings_Cut.f pc ⟨#[61]⟩ = some (n0, re, fd) := by
        unfold strings_Cut.f
        rw [if_pos ⟨by omega, rfl⟩]
        exact congrArg some hcut
      have HCF := Aside0.mk hcf
      have ht1 := trim_size n0
      have hlow : text_Lower.f (trimS n0) = some (lowS (trimS n0)) := by unfold text_Lower.f; rw [if_pos (by omega)]
      have HLOW := Aside0.mk hlow
      have E : stepQ st pc = if fd = false ∨ isTokenB (lowS (trimS n0)) = false ∨ inB (lowS (trimS n0)) (namesOf st.ps) = true then st
          else if (valueS (trimS re)).2 = true then ⟨st.main, st.first, st.ps ++ [⟨lowS (trimS n0), (valueS (trimS re)).1⟩]⟩ else st := by
        unfold stepQ pnameS
        rw [if_neg z, hcut]
      have hnm := lowS_size (trimS n0)
      obtain ⟨k2, hk2⟩ := (trim_ev n0 (by omega)).rounds
      generalize lowS (trimS n0) = nm at *
      obtain ⟨k3, hk3⟩ := (isToken_ev nm (by omega)).rounds
      obtain ⟨k4, hk4⟩ := (trim_ev re (by omega)).rounds
      have ht2 := trim_size re
      obtain ⟨k5, hk5⟩ := (value_ev (trimS re) (by omega)).rounds
      obtain ⟨v, ok, hv⟩ : ∃ v ok, valueS (trimS re) = (v, ok) := ⟨_, _, rfl⟩
      rw [hv] at hk5 E
      dsimp only at E
      have HK2 := Aside0.mk hk2
      have HK3 := Aside0.mk hk3
      have HK4 := Aside0.mk hk4
      have HK5 := Aside0.mk hk5
      have hnmx : nm.size ≤ maxLen := by unfold maxLen; omega
      clear hcf hcut hlow hk2 hk3 hk4 hk5 hv z hP
      cases fd with
      | false =>
        rw [if_pos (.inl rfl)] at E
        have HE := Aside0.mk E
        clear E
        gi_wp2_with fail
        refine (CallsIn.inRound l (callsIn_wide.2 (strings_Cut.calls _ _ _ _ _ _ HCF.out))).mono ?_
        rintro e w1 ⟨rfl, ⟨nd, rfl⟩⟩
        gi_wp2_with fail
        refine (CallsIn.inRound l (callsIn_wide.2 (text_Trim.calls k2 _ _ _ HK2.out))).mono ?_
        rintro e w1 ⟨rfl, ⟨nd2, rfl⟩⟩
        gi_wp2_with fail
        refine (CallsIn.inRound l (callsIn_wide.2 (text_Lower.calls _ _ _ HLOW.out))).mono ?_
        rintro e w1 ⟨rfl, hb1⟩
        have hb : Below W.heap.size W w1 := (pw_below_drewN (Below.refl W.heap.size W) _).trans hb1
        have HB := Aside0.mk hb
        clear hb hb1
        gi_wp2_with fail
        refine GO.out _ (.slice AF st.ps.length cF) (HB.out.mono hn0) (keeps_below _ HB.out) ?_ _
        rw [HE.out]
        exact qst_below HP.out HB.out
      | true =>
      cases htk : isTokenB nm with
      | false =>
        rw [htk] at HK3
        rw [if_pos (.inr (.inl htk))] at E
        have HE := Aside0.mk E
        clear E htk
        gi_wp2_with fail
        refine (CallsIn.inRound l (callsIn_wide.2 (strings_Cut.calls _ _ _ _ _ _ HCF.out))).mono ?_
        rintro e w1 ⟨rfl, ⟨nd, rfl⟩⟩
        gi_wp2_with fail
        refine (CallsIn.inRound l (callsIn_wide.2 (text_Trim.calls k2 _ _ _ HK2.out))).mono ?_
        rintro e w1 ⟨rfl, ⟨nd2, rfl⟩⟩
        gi_wp2_with fail
        refine (CallsIn.inRound l (callsIn_wide.2 (text_Lower.calls _ _ _ HLOW.out))).mono ?_
        rintro e w1 ⟨rfl, hb1⟩
        have hb : Below W.heap.size W w1 := (pw_below_drewN (Below.refl W.heap.size W) _).trans hb1
        have HB := Aside0.mk hb
        clear hb hb1
        gi_wp2_with fail
        refine (CallsIn.inRound l (callsIn_wide.2 (header_isToken.calls k3 _ _ _ HK3.out))).mono ?_
        rintro e w2 ⟨rfl, ⟨nd3, rfl⟩⟩
        gi_wp2_with fail
        have hb2 : Below W.heap.size W (w1.drewN nd3) := pw_below_drewN HB.out nd3
        refine GO.out _ (.slice AF st.ps.length cF) (hb2.mono hn0) (keeps_below _ hb2) ?_ _
        rw [HE.out]
        exact qst_below HP.out hb2
      | true =>
      rw [htk] at HK3
      cases hin : inB nm (namesOf st.ps) with
      | true =>
        rw [if_pos (.inr (.inr hin))] at E
        have HE := Aside0.mk E
        have HI := Aside0.mk hin
        clear E hin htk
        gi_wp2_with fail
        refine (CallsIn.inRound l (callsIn_wide.2 (strings_Cut.calls _ _ _ _ _ _ HCF.out))).mono ?_
        rintro e w1 ⟨rfl, ⟨nd, rfl⟩⟩
        gi_wp2_with fail
        refine (CallsIn.inRound l (callsIn_wide.2 (text_Trim.calls k2 _ _ _ HK2.out))).mono ?_
        rintro e w1 ⟨rfl, ⟨nd2, rfl⟩⟩
        gi_wp2_with fail
        refine (CallsIn.inRound l (callsIn_wide.2 (text_Lower.calls _ _ _ HLOW.out))).mono ?_
        rintro e w1 ⟨rfl, hb1⟩
        have hb : Below W.heap.size W w1 := (pw_below_drewN (Below.refl W.heap.size W) _).trans hb1
        have hq1 := qst_below HP.out hb
        have c3' : w1.cell? ⟨w.heap.size + 1 + 1 + 1 + 1, 0, none⟩ = some (.map (some (w.heap.size + 1 + 1 + 1))) := cell_of hq1.c3 rfl
        have HB := Aside0.mk hb
        have HQ1 := Aside0.mk hq1
        clear hb hb1 hq1
        gi_wp2_with fail
        refine (CallsIn.inRound l (callsIn_wide.2 (header_isToken.calls k3 _ _ _ HK3.out))).mono ?_
        rintro e w2 ⟨rfl, ⟨nd3, rfl⟩⟩
        have hb2 : Below W.heap.size W (w1.drewN nd3) := pw_below_drewN HB.out nd3
        have hq2 := qst_below HP.out hb2
        have hlook := qst_look hq2 nm hnmx
        have HB2 := Aside0.mk hb2
        have HQ2 := Aside0.mk hq2
        clear hb2 hq2
        rw [HI.out] at hlook
        gi_wp2_with fail
        refine GO.out _ (.slice AF st.ps.length cF) (HB2.out.mono hn0) (keeps_below _ HB2.out) ?_ _
        rw [HE.out]
        exact HQ2.out
      | false =>
      rw [if_neg (by rintro (h | h | h) <;> first | (cases h; done) | (rw [htk] at h; cases h; done) | (rw [hin] at h; cases h; done))] at E
      have HI := Aside0.mk hin
      clear hin htk
      cases ok with
      | false =>
        rw [if_neg (by decide)] at E
        have HE := Aside0.mk E
        clear E
        gi_wp2_with fail
        refine (CallsIn.inRound l (callsIn_wide.2 (strings_Cut.calls _ _ _ _ _ _ HCF.out))).mono ?_
        rintro e w1 ⟨rfl, ⟨nd, rfl⟩⟩
        gi_wp2_with fail
        refine (CallsIn.inRound l (callsIn_wide.2 (text_Trim.calls k2 _ _ _ HK2.out))).mono ?_
        rintro e w1 ⟨rfl, ⟨nd2, rfl⟩⟩
        gi_wp2_with fail
        refine (CallsIn.inRound l (callsIn_wide.2 (text_Lower.calls _ _ _ HLOW.out))).mono ?_
        rintro e w1 ⟨rfl, hb1⟩
        have hb : Below W.heap.size W w1 := (pw_below_drewN (Below.refl W.heap.size W) _).trans hb1
        have hq1 := qst_below HP.out hb
        have c3' : w1.cell? ⟨w.heap.size + 1 + 1 + 1 + 1, 0, none⟩ = some (.map (some (w.heap.size + 1 + 1 + 1))) := cell_of hq1.c3 rfl
        have HB := Aside0.mk hb
        have HQ1 := Aside0.mk hq1
        clear hb hb1 hq1
        gi_wp2_with fail
        refine (CallsIn.inRound l (callsIn_wide.2 (header_isToken.calls k3 _ _ _ HK3.out))).mono ?_
        rintro e w2 ⟨rfl, ⟨nd3, rfl⟩⟩
        have hb2 : Below W.heap.size W (w1.drewN nd3) := pw_below_drewN HB.out nd3
        have hq2 := qst_below HP.out hb2
        have hlook := qst_look hq2 nm hnmx
        have HB2 := Aside0.mk hb2
        have HQ2 := Aside0.mk hq2
        clear hb2 hq2
        rw [HI.out] at hlook
        gi_wp2_with fail
        refine (CallsIn.inRound l (callsIn_wide.2 (text_Trim.calls k4 _ _ _ HK4.out))).mono ?_
        rintro e w3 ⟨rfl, ⟨nd4, rfl⟩⟩
        gi_wp2_with fail
        refine (CallsIn.inRound l (callsIn_wide.2 (header_paramValue.calls k5 _ _ _ _ HK5.out))).mono ?_
        rintro e w4 ⟨rfl, hb4⟩
        have hb5 : Below W.heap.size W w4 := (pw_below_drewN HB.out (nd3 + nd4)).trans (hb4.mono HB2.out.size)
        have HB5 := Aside0.mk hb5
        clear hb4 hb5
        gi_wp2_with fail
        refine GO.out _ (.slice AF st.ps.length cF) (HB5.out.mono hn0) (keeps_below _ HB5.out) ?_ _
        rw [HE.out]
        exact qst_below HP.out HB5.out
      | true =>
        rw [if_pos rfl] at E
        have HE := Aside0.mk E
        obtain ⟨i0, hi, hz0, hz1, hz2⟩ := info_parts info25
        clear E
        gi_wp2_with fail
        refine (CallsIn.inRound l (callsIn_wide.2 (strings_Cut.calls _ _ _ _ _ _ HCF.out))).mono ?_
        rintro e w1 ⟨rfl, ⟨nd, rfl⟩⟩
        gi_wp2_with fail
        refine (CallsIn.inRound l (callsIn_wide.2 (text_Trim.calls k2 _ _ _ HK2.out))).mono ?_
        rintro e w1 ⟨rfl, ⟨nd2, rfl⟩⟩
        gi_wp2_with fail
        refine (CallsIn.inRound l (callsIn_wide.2 (text_Lower.calls _ _ _ HLOW.out))).mono ?_
        rintro e w1 ⟨rfl, hb1⟩
        have hb : Below W.heap.size W w1 := (pw_below_drewN (Below.refl W.heap.size W) _).trans hb1
        have hq1 := qst_below HP.out hb
        have c3' : w1.cell? ⟨w.heap.size + 1 + 1 + 1 + 1, 0, none⟩ = some (.map (some (w.heap.size + 1 + 1 + 1))) := cell_of hq1.c3 rfl
        have HB := Aside0.mk hb
        have HQ1 := Aside0.mk hq1
        clear hb hb1 hq1
        gi_wp2_with fail
        refine (CallsIn.inRound l (callsIn_wide.2 (header_isToken.calls k3 _ _ _ HK3.out))).mono ?_
        rintro e w2 ⟨rfl, ⟨nd3, rfl⟩⟩
        have hb2 : Below W.heap.size W (w1.drewN nd3) := pw_below_drewN HB.out nd3
        have hq2 := qst_below HP.out hb2
        have hlook := qst_look hq2 nm hnmx
        have HB2 := Aside0.mk hb2
        have HQ2 := Aside0.mk hq2
        clear hb2 hq2
        rw [HI.out] at hlook
        gi_wp2_with fail
        refine (CallsIn.inRound l (callsIn_wide.2 (text_Trim.calls k4 _ _ _ HK4.out))).mono ?_
        rintro e w3 ⟨rfl, ⟨nd4, rfl⟩⟩
        gi_wp2_with fail
        refine (CallsIn.inRound l (callsIn_wide.2 (header_paramValue.calls k5 _ _ _ _ HK5.out))).mono ?_
        rintro e w4 ⟨rfl, hb4⟩
        have hb5 : Below W.heap.size W w4 := (pw_below_drewN HB.out (nd3 + nd4)).trans (hb4.mono HB2.out.size)
        have hq5 := qst_below HP.out hb5
        have cP2 : w4.cell? ⟨w.heap.size + 1 + 1, 0, none⟩ = some (.slice AF st.ps.length cF) := cell_of hq5.c2 rfl
        have hoP := hq5.oP
        have hn4 : w.heap.size ≤ w4.heap.size := Nat.le_trans hn0 hb5.size
        have HB5 := Aside0.mk hb5
        have HQ5 := Aside0.mk hq5
        clear hb4 hb5 hq5
        gi_wp2_with (gi_at_builtin; refine wpListIn_append_own _ rfl _ _ 22 rfl w.heap.size 25 i0 (.agg #[(.string ⟨#[]⟩), (.string ⟨#[]⟩)]) 2 32 Tryz.underlying22 hi hz0 hz1 hz2 rfl (by decide) _ _ _ rfl (hoP.alloc _) ⟨w4.heap.size, 0, none⟩ 1 1 [.string nm, .string v] rfl rfl ?c1 ?c2 ?c3 ?c4 ?c5 ?_)
        case c1 =>
          intro j u hj
          match j, hj with
          | 0, hj => simp at hj; subst hj; exact World.cell?_alloc_new w4 _ _ _
          | 1, hj => simp at hj; subst hj; exact World.cell?_alloc_new w4 _ _ _
        case c2 => intro u hu; simp at hu; rcases hu with rfl | rfl <;> rfl
        case c3 => unfold maxLen; omega
        case c4 => omega
        case c5 => simp; omega
        intro v' w5 hown' hgrow _
        obtain ⟨gv, capv, rfl⟩ := ownsRow_succ hown'
        obtain ⟨k1', k2', k3', k4', k5'⟩ := qst_app HQ5.out (by omega) hn4 W0.heap.size hown' hgrow
        have c37 : (w5.setCell ⟨w.heap.size + 1 + 1, 0, none⟩ (.slice (some ⟨gv, 0, none⟩) (st.ps.length + 1) capv)).cell? ⟨w.heap.size + 1 + 1 + 1 + 1, 0, none⟩ = some (.map (some (w.heap.size + 1 + 1 + 1))) := cell_of k3'.c3 rfl
        have hmp := k3'.mp
        have hn6 : w.heap.size ≤ (w5.setCell ⟨w.heap.size + 1 + 1, 0, none⟩ (.slice (some ⟨gv, 0, none⟩) (st.ps.length + 1) capv)).heap.size := Nat.le_trans hn4 k4'.size
        have HK3' := Aside0.mk k3'
        have HK4' := Aside0.mk k4'
        have HK5' := Aside0.mk k5'
        have hnl : (namesOf st.ps).length = st.ps.length := by simp [namesOf]
        have hnlt : (namesOf st.ps).length < maxLen := by rw [hnl]; unfold maxLen; omega
        clear hnl
        have hkey := WideMaps.keyOf_string_mk Tryz.underlying9 hnmx
        have hval := plainElem_bool (H := Unit) Tryz.underlying4 true
        clear hown' hgrow k3' k4' k5' hoP
        gi_wp2_with (gi_at_mapUpdate; refine wpListIn_mapUpdate_own _ rfl _ _ _ 54 rfl 9 4 K9 Tryz.underlying54 (plainElem Tryz.prog 4) (w.heap.size + 1 + 1 + 1) _ _ rfl hmp hnlt _ _ _ rfl rfl hkey _ [] hval ?_)
        intro w7 hm7 hg7
        obtain ⟨q1, q2, q3⟩ := qst_map HK3'.out (by omega) hn6 (nm := nm) W0.heap.size (by omega) hm7 hg7
        have HQ1' := Aside0.mk q1
        have HQ2' := Aside0.mk q2
        have HQ3' := Aside0.mk q3
        clear hm7 hg7 q1 q2 q3
        gi_wp2_with fail
        refine GO.out _ (.slice (some ⟨gv, 0, none⟩) (st.ps.length + 1) capv) (((HB5.out.mono hn0).trans HK4'.out).trans HQ2'.out) (((keeps_below _ HB5.out).trans HK5'.out).trans HQ3'.out) ?_ _
        rw [HE.out]
        have e : namesOf (st.ps ++ [⟨nm, v⟩]) = namesOf st.ps ++ [nm] := by simp [namesOf]
        dsimp only
        rw [e]
        exact HQ1'.out
  case done =>
    rintro D zs W hD hS ⟨⟨vP, hP⟩, hB⟩ hK
    have hn0 := hB.size
    have hps : paramsS a0 = ((foldQ ⟨⟨#[]⟩, true, []⟩ (zs.map (pieceNo a0))).main, (foldQ ⟨⟨#[]⟩, true, []⟩ (zs.map (pieceNo a0))).ps) := by
      unfold paramsS
      rw [hS]
    rw [h] at hps
    clear h
    generalize foldQ ⟨⟨#[]⟩, true, []⟩ (zs.map (pieceNo a0)) = st at *
    obtain ⟨hr1, hr2⟩ := Prod.mk.inj hps
    have HR1 := Lib.hid hr1
    have HR2 := Lib.hid hr2
    clear hps hr1 hr2
    obtain ⟨AF, cF, rfl⟩ := own_slice hP.oP
    have c0' : W.cell? ⟨w.heap.size, 0, none⟩ = some (.string st.main) := cell_of hP.c0 rfl
    have c2' : W.cell? ⟨w.heap.size + 1 + 1, 0, none⟩ = some (.slice AF st.ps.length cF) := cell_of hP.c2 rfl
    have HP := Aside0.mk hP
    have HB := Aside0.mk hB
    have HK := Aside0.mk hK
    clear hP hB hK
    have hmx : Tryz.prog.follows .mixedOrders = true := by kernel_rfl
    gi_wp2_with fail
    gi_region
    gi_wp2
    have hK2 : W.drew.heap[D]? = some (.deferred (some [])) := HK.out
    refine ⟨by simp, .inl ⟨D, _, rfl, run_takeDeferred hK2, ?_⟩⟩
    have hP2 := qst_own _ _ (some D) (qst_below HP.out (pw_below_drewN (Below.refl _ W) 1)) (grownBy_putObj' W.drew D (.deferred none)) (fun r e => by cases e; exact ⟨by omega, _, hK2, rfl⟩)
    have hbel : Below w.heap.size w (W.drew.putObj D (.deferred none)) := HB.out.drew.trans (belowK_b (w := w) (Nat.le_refl _) _ D _ _ (by omega) hK2 rfl rfl)
    rw [HR1.out, HR2.out]
    exact ⟨_, by simp [results, Tryz.f11, go_sem], _, rfl, qst_result hP2, hbel⟩
end Go.Proofs.YtieompfmhnpnaaaGreat.H
end
section
namespace Go.Proofs.YtieompfmhnpnaaaGreat.H
open Go.RowKit Go.Proofs.YtieompfmhnpnaaaGreatW.PrintWords Go.Proofs.YtieompfmhnpnaaaGreatW.PrintLast Go.Proofs.YtieompfmhnpnaaaGreatW.PrintMore
set_option linter.unusedVariables false
set_option linter.unusedSimpArgs false
theorem printable_l0 (s : ByteArray) (hs : s.size ≤ 1099511627776) : ∀ (n i : Nat), i + n = s.size →
    Ev (fun k => missiveref09_Printable.l0 k s (i : Int)) (((bl s).drop i).all visB)
  | 0, i, hi => by
    have hl := bl_length s
    refine Ev.step (fun k => by simp only [missiveref09_Printable.l0]; rfl) ?_
    refine ev_no (by omega) ?_
    exact ev_done (by rw [List.drop_of_length_le (by omega)]; rfl)
  | n + 1, i, hi => by
    refine Ev.step (fun k => by simp only [missiveref09_Printable.l0]; rfl) ?_
    have hb := bt_byteAt s i (by omega)
    refine ev_yes (by omega) ?_
    refine ev_yes (by omega) ?_
    simp only [hb]
    rw [drop_byteAt s i (by omega), List.all_cons]
    by_cases h1 : (byteAt s i).toNat < 33
    · have hv : visB (byteAt s i) = false := by unfold visB; simp; omega
      rw [hv, Bool.false_and]
      exact ev_yes (by omega) (Ev.now _)
    · refine ev_no (by omega) ?_
      by_cases h2 : (byteAt s i).toNat > 126
      · have hv : visB (byteAt s i) = false := by unfold visB; simp; omega
        rw [hv, Bool.false_and]
        exact ev_yes (by omega) (Ev.now _)
      · have hv : visB (byteAt s i) = true := by unfold visB; simp; omega
        rw [hv, Bool.true_and]
        refine ev_no (by omega) ?_
        rw [wrap_up i (by omega)]
        exact printable_l0 s hs n (i + 1) (by omega)
theorem printable_ev (s : ByteArray) (hs : s.size ≤ 1099511627776) : Ev (fun k => missiveref09_Printable.f k s) ((bl s).all visB) := by
  unfold missiveref09_Printable.f
  have := printable_l0 s hs s.size 0 (by omega)
  simpa using this
theorem has_l1 (s l : ByteArray) (hs : s.size ≤ 1099511627776) (hl : l.size ≤ 1099511627776) (i : Nat) (hi : i < s.size) (r : Bool)
    (hrest : Ev (fun k => missiveref09_has.l0 k s l ((i + 1 : Nat) : Int)) r) : ∀ (n j : Nat), j + n = l.size →
    Ev (fun k => missiveref09_has.l1 k s l (i : Int) (j : Int)) (((bl l).drop j).contains (byteAt s i) || r)
  | 0, j, hj => by
    have hll := bl_length l
    refine Ev.step (fun k => by simp only [missiveref09_has.l1]; rfl) ?_
    refine ev_no (by omega) ?_
    rw [List.drop_of_length_le (by omega), wrap_up i (by omega)]
    simpa using hrest
  | n + 1, j, hj => by
    refine Ev.step (fun k => by simp only [missiveref09_has.l1]; rfl) ?_
    have hb := bt_byteAt s i hi
    have hb2 := bt_byteAt l j (by omega)
    refine ev_yes (by omega) ?_
    refine ev_yes (by omega) ?_
    refine ev_yes (by omega) ?_
    refine ev_yes (by omega) ?_
    simp only [hb, hb2]
    rw [drop_byteAt l j (by omega)]
    by_cases h : byteAt s i = byteAt l j
    · refine ev_yes (by rw [h]) ?_
      rw [h]
      simp
      exact Ev.now _
    · refine ev_no (fun e => h (by rw [← UInt8.toNat_inj]; omega)) ?_
      have e : (byteAt l j :: (bl l).drop (j + 1)).contains (byteAt s i) = ((bl l).drop (j + 1)).contains (byteAt s i) := by
        rw [List.contains_cons, beq_eq_false_iff_ne.2 h, Bool.false_or]
      rw [e, wrap_up j (by omega)]
      exact has_l1 s l hs hl i hi r hrest n (j + 1) (by omega)
theorem has_l0 (s l : ByteArray) (hs : s.size ≤ 1099511627776) (hl : l.size ≤ 1099511627776) : ∀ (n i : Nat), i + n = s.size →
    Ev (fun k => missiveref09_has.l0 k s l (i : Int)) (((bl s).drop i).any fun c => (bl l).contains c)
  | 0, i, hi => by
    have hll := bl_length s
    refine Ev.step (fun k => by simp only [missiveref09_has.l0]; rfl) ?_
    refine ev_no (by omega) ?_
    exact ev_done (by rw [List.drop_of_length_le (by omega)]; rfl)
  | n + 1, i, hi => by
    refine Ev.step (fun k => by simp only [missiveref09_has.l0]; rfl) ?_
    refine ev_yes (by omega) ?_
    rw [drop_byteAt s i (by omega), List.any_cons]
    have := has_l1 s l hs hl i (by omega) _ (has_l0 s l hs hl n (i + 1) (by omega)) l.size 0 (by omega)
    simpa using this
theorem has_ev (s l : ByteArray) (hs : s.size ≤ 1099511627776) (hl : l.size ≤ 1099511627776) : Ev (fun k => missiveref09_has.f k s l) ((bl s).any fun c => (bl l).contains c) := by
  unfold missiveref09_has.f
  have := has_l0 s l hs hl s.size 0 (by omega)
  simpa using this
theorem all_split (l : List UInt8) : (l.all fun c => visB c && c != 58) = (l.all visB && !(l.any fun c => [(58 : UInt8)].contains c)) := by
  induction l with
  | nil => rfl
  | cons c l ih =>
    rw [List.all_cons, List.all_cons, List.any_cons, ih]
    have e : [(58 : UInt8)].contains c = (c == 58) := by
      rw [List.contains_cons]
      simp
    rw [e]
    cases hv : visB c <;> cases h5 : (c == 58) <;> cases ha : l.all visB <;> simp [bne, h5]
theorem named_ev (s : ByteArray) (hs : s.size ≤ 1099511627776) : Ev (fun k => missiveref09_Named.f k s) (isNameB s) := by
  unfold missiveref09_Named.f isNameB
  simp only [toList_bl]
  by_cases h0 : bl s = []
  · have hz : s.size = 0 := by rw [← bl_length, h0]; rfl
    refine ev_yes h0 (ev_done ?_)
    have : decide (1 ≤ s.size) = false := by rw [hz]; rfl
    rw [this]
    rfl
  · refine ev_no h0 ?_
    have hz : 1 ≤ s.size := by
      rw [← bl_length]
      cases hb : bl s with
      | nil => exact absurd hb h0
      | cons _ _ => simp
    have d1 : decide (1 ≤ s.size) = true := by simpa using hz
    rw [d1, Bool.true_and]
    by_cases h2 : s.size ≤ 200
    · have d2 : decide (s.size ≤ 200) = true := by simpa using h2
      rw [d2, Bool.true_and, all_split]
      refine ev_yes (by omega) ?_
      refine Ev.bind (printable_ev s hs) ?_
      cases hp : (bl s).all visB with
      | false =>
        refine ev_no (by decide) (ev_done ?_)
        rfl
      | true =>
        refine ev_yes (by trivial) ?_
        refine Ev.bind (has_ev s _ hs (by decide)) ?_
        exact ev_done (by rw [Bool.true_and])
    · have d2 : decide (s.size ≤ 200) = false := by simpa using h2
      rw [d2, Bool.false_and]
      exact ev_no (by omega) (Ev.now _)
end Go.Proofs.YtieompfmhnpnaaaGreat.H
end
section
namespace Go.Proofs.YtieompfmhnpnaaaGreat.H
open Go.RowKit Go.Proofs.YtieompfmhnpnaaaGreatW.PrintWords Go.Proofs.YtieompfmhnpnaaaGreatW.PrintLast Go.Proofs.YtieompfmhnpnaaaGreatW.PrintMore
set_option linter.unusedVariables false
set_option linter.unusedSimpArgs false
attribute [local go_sem] Oper.semAt_some
attribute [local go_sem] wide_fn wide_depth wide_fn_r wide_depth_r
def header_Parse.f (a0 : ByteArray) : Option (List S35 × Int) := if a0.size ≤ 8388608 then some ((parseS a0).1, ((parseS a0).2 : Int)) else none
def InvP (n0 b0 b1 b2 b3 b4 bs : Nat) (raw : ByteArray) (w : World) (pre : List Nat) (W : World) : Prop :=
  (∃ st vF vV, goP ⟨[], [], 0⟩ (pre.map (lineNo raw)) = some st ∧ PSt n0 b0 b1 b2 b3 b4 bs raw st vF vV W) ∧ Below n0 w W
def InvX (n0 b0 b1 b2 b3 b4 bs : Nat) (raw : ByteArray) (w : World) (c : Code) (pre : List Nat) (W : World) : Prop :=
  (c = .exit 0 ∧ ∃ pre0 x st vF vV, pre = pre0 ++ [x] ∧ goP ⟨[], [], 0⟩ (pre0.map (lineNo raw)) = some st ∧ (stepP st (lineNo raw x)).2 = false ∧ PSt n0 b0 b1 b2 b3 b4 bs raw (stepP st (lineNo raw x)).1 vF vV W) ∧ Below n0 w W
set_option maxRecDepth 100000 in
set_option maxHeartbeats 4000000 in
theorem header_Parse.calls (a0 : ByteArray) (r1 : List (S35)) (r2 : Int) (w : World) (h : header_Parse.f a0 = some (r1, r2)) :
    Calls Tryz.prog 22 #[.string a0] w fun e w' => ∃ v0_ : Value, e = .returned (.tuple #[v0_, .int .i64 r2]) ∧ Kd.R k35 35 w' w.heap.size (fun _ => True) v0_ r1 ∧ Below w.heap.size w w' := by
  unfold header_Parse.f at h
  split at h
  case isFalse => cases h
  case isTrue hsz =>
  injection h with h
  injection h with h1 h2
  subst h1 h2
  refine callsIn_wide.1 (callsIn_of_wp_marks (n := 10) Tryz.func22 rfl trivial ?_ rfl)
  simp only [Tryz.ntmps22, List.size_toArray, List.length_cons, List.length_nil, Nat.reduceAdd, Nat.reduceSub, Array.replicate_succ, Array.replicate_zero, List.push_toArray, List.append_toArray, List.nil_append, List.cons_append]
  gi_wp2_with (gi_at_call 60; refine (lines_in _ _ _).mono ?_; rintro e w' ⟨rfl, rfl⟩)
  obtain ⟨W0, hW0⟩ : ∃ W0, w0P w a0 = W0 := ⟨_, rfl⟩
  have hs0 := w0P_size w a0
  have hB0 := w0P_below w a0
  have hP0 := pst_start w a0
  rw [hW0] at hs0 hB0 hP0
  unfold w0P FIN ADD at hW0
  rw [hW0]
  clear hW0
  have hM : ∀ pre : List Nat, ∀ x ∈ pre.map (lineNo a0), x.con.size ≤ 8388608 := fun pre x hx => by
    obtain ⟨i, _, rfl⟩ := List.mem_map.1 hx
    exact Nat.le_trans (lineNo_con a0 i) hsz
  have hN : (linesOf a0).length ≤ 8388609 := Nat.le_trans (linesAt_length a0 _ _) (by omega)
  refine wpIn_rangeFunc_ownH rfl (by decide) (gf := 86) (lb := #[.pointer (some ⟨w.heap.size + 1 + 1 + 1 + 1 + 1, 0, none⟩)]) rfl trivial (enters_of Tryz.func86 (by kernel_rfl) rfl)
    (encs := fun i : Nat => encLine (lineNo a0 i)) (lines_stops 9 (w.heap.size + 1 + 1 + 1 + 1 + 1) a0 (by omega) W0 (by omega) hP0.cs) (Kp := fun W W' => W'.heap[w.heap.size + 1 + 1 + 1 + 1 + 1]? = W.heap[w.heap.size + 1 + 1 + 1 + 1 + 1]?) (fun {A B C} h k => Eq.trans k h) (fun W l o o' hl ho _ _ => World.putObj_heap_other (by omega)) (Below.refl _ _) (fun _ => rfl)
    (InvP w.heap.size w.heap.size (w.heap.size + 1) (w.heap.size + 1 + 1) (w.heap.size + 1 + 1 + 1) (w.heap.size + 1 + 1 + 1 + 1) (w.heap.size + 1 + 1 + 1 + 1 + 1) a0 w) (InvX w.heap.size w.heap.size (w.heap.size + 1) (w.heap.size + 1 + 1) (w.heap.size + 1 + 1 + 1) (w.heap.size + 1 + 1 + 1 + 1) (w.heap.size + 1 + 1 + 1 + 1 + 1) a0 w)
    ?ownI ?ownX ⟨⟨_, _, _, rfl, hP0⟩, hB0⟩
    (fun x a' W => ∃ Bx, W.heap[Bx]? = some (.cells #[.string (lineNo a0 x).con, .int .i64 ((lineNo a0 x).fr : Int), .int .i64 ((lineNo a0 x).un : Int)] 81 (0, 0)) ∧ a' = { tmps := #[Value.string a0, undef, Value.slice none 0 0, Value.int IntKind.i64 0, Value.pointer (some ⟨w.heap.size, 0, none⟩), Value.pointer (some ⟨w.heap.size + 1, 0, none⟩), Value.pointer (some ⟨w.heap.size + 1 + 1, 0, none⟩), Value.pointer (some ⟨w.heap.size + 1 + 1 + 1, 0, none⟩), Value.pointer (some ⟨w.heap.size + 1 + 1 + 1 + 1, 0, none⟩), Value.pointer (some ⟨Bx, 0, none⟩), undef, undef, undef, Value.func (Fn.func 57) #[] #[Value.pointer (some ⟨w.heap.size, 0, none⟩), Value.pointer (some ⟨w.heap.size + 1, 0, none⟩)], Value.func (Fn.func 59) #[] #[Value.pointer (some ⟨w.heap.size + 1, 0, none⟩)], Value.string a0, Value.func (Fn.func 86) #[] #[Value.pointer (some ⟨w.heap.size + 1 + 1 + 1 + 1 + 1, 0, none⟩)], Value.agg #[.string (lineNo a0 x).con, .int .i64 ((lineNo a0 x).fr : Int), .int .i64 ((lineNo a0 x).un : Int)], undef, undef, undef, undef, undef, undef, undef, undef, undef, undef, undef, undef, undef, undef, undef, undef, undef, undef, undef, undef, undef, undef, undef, undef, undef, undef, undef, undef, undef, undef, undef, undef, undef, undef, undef, undef, undef, undef, undef, undef, undef, undef, undef, undef, undef, undef, undef, undef, undef, undef, undef, undef, undef, undef, undef], defers := [] })
    ?ownA ?assign ?body ?done ?stop
  case ownI =>
    refine OwnFrom.and (fun pre X Y row hs hg hr => ?_) (ownFrom_below (Nat.le_refl _) (by omega))
    obtain ⟨st, vF, vV, h1, h2⟩ := hs
    exact ⟨st, vF, vV, h1, pst_own X Y row h2 hg (fun r e => (hr r e).2)⟩
  case ownX =>
    intro c
    refine OwnFrom.and (fun pre X Y row hs hg hr => ?_) (ownFrom_below (Nat.le_refl _) (by omega))
    obtain ⟨hc, pre0, x, st, vF, vV, e, h1, h2, h3⟩ := hs
    exact ⟨hc, pre0, x, st, vF, vV, e, h1, h2, pst_own X Y row h3 hg (fun r e => (hr r e).2)⟩
  case ownA =>
    rintro x a' _ X Y row ⟨Bx, h1, h2⟩ hg hr
    exact ⟨Bx, (grownBy_keeps_cells hg (fun r e => (hr r e).2) h1 rfl).trans h1, h2⟩
  case assign =>
    rintro l pre x W K ⟨⟨st, vF, vV, hgo, hP⟩, hB⟩ hK
    unfold encLine
    gi_wp2
    have hlt5 := (Array.getElem?_eq_some_iff.1 hP.cs).1
    exact hK _ _ ((KeepsOthers.alloc _ _).from _) (Lib.alloc_old W _ _ hlt5) ⟨⟨st, vF, vV, hgo, pst_own W _ none hP (World.grownBy_alloc W _ none) (fun r e => by cases e)⟩, hB.alloc hB.size _⟩ ⟨W.heap.size, World.alloc_heap_new _ _, rfl⟩
  case body =>
    rintro l pre x a' W hl ⟨r, hr⟩ ⟨⟨st, vF, vV, hgo, hP⟩, hB⟩ ⟨Bx, hX, rfl⟩ hlt
    obtain ⟨bV, bM, bF⟩ := goP_bd (hM pre) (k := 0) (st := ⟨[], [], 0⟩) ⟨Nat.le_refl _, (fun v hv => by cases hv), Nat.zero_le _⟩ hgo
    rw [List.length_map] at bV
    have hcon : (lineNo a0 x).con.size ≤ 8388608 := Nat.le_trans (lineNo_con a0 x) hsz
    have hsnoc := goP_snoc ⟨[], [], 0⟩ (pre.map (lineNo a0)) (lineNo a0 x)
    rw [hgo] at hsnoc
    have hmap : (pre ++ [x]).map (lineNo a0) = pre.map (lineNo a0) ++ [lineNo a0 x] := by simp
    have hn0 := hB.size
    have goes : ∀ W3 vF3 vV3 st3, Stp w.heap.size W W3 → stepP st (lineNo a0 x) = (st3, true) → PSt w.heap.size w.heap.size (w.heap.size + 1) (w.heap.size + 1 + 1) (w.heap.size + 1 + 1 + 1) (w.heap.size + 1 + 1 + 1 + 1) (w.heap.size + 1 + 1 + 1 + 1 + 1) a0 st3 vF3 vV3 W3 → ∀ act, ownPostG W0.heap.size (fun W W' => W'.heap[w.heap.size + 1 + 1 + 1 + 1 + 1]? = W.heap[w.heap.size + 1 + 1 + 1 + 1 + 1]?) (InvP w.heap.size w.heap.size (w.heap.size + 1) (w.heap.size + 1 + 1) (w.heap.size + 1 + 1 + 1) (w.heap.size + 1 + 1 + 1 + 1) (w.heap.size + 1 + 1 + 1 + 1 + 1) a0 w) (InvX w.heap.size w.heap.size (w.heap.size + 1) (w.heap.size + 1 + 1) (w.heap.size + 1 + 1 + 1) (w.heap.size + 1 + 1 + 1 + 1) (w.heap.size + 1 + 1 + 1 + 1 + 1) a0 w) (pre ++ [x]) W .normal act W3 := by
      intro W3 vF3 vV3 st3 h1 h2 h3 act
      refine ⟨h1.keeps _, h3.cs.trans hP.cs.symm, ⟨st3, vF3, vV3, ?_, h3⟩, hB.trans (h1.below hn0)⟩
      rw [hmap, hsnoc]
      show (if (stepP st (lineNo a0 x)).2 = true then some (stepP st (lineNo a0 x)).1 else none) = some st3
      rw [h2]
      rfl
    have stops : ∀ W3 vF3 vV3 st3, Stp w.heap.size W W3 → stepP st (lineNo a0 x) = (st3, false) → PSt w.heap.size w.heap.size (w.heap.size + 1) (w.heap.size + 1 + 1) (w.heap.size + 1 + 1 + 1) (w.heap.size + 1 + 1 + 1 + 1) (w.heap.size + 1 + 1 + 1 + 1 + 1) a0 st3 vF3 vV3 W3 → ∀ act, ownPostG W0.heap.size (fun W W' => W'.heap[w.heap.size + 1 + 1 + 1 + 1 + 1]? = W.heap[w.heap.size + 1 + 1 + 1 + 1 + 1]?) (InvP w.heap.size w.heap.size (w.heap.size + 1) (w.heap.size + 1 + 1) (w.heap.size + 1 + 1 + 1) (w.heap.size + 1 + 1 + 1 + 1) (w.heap.size + 1 + 1 + 1 + 1 + 1) a0 w) (InvX w.heap.size w.heap.size (w.heap.size + 1) (w.heap.size + 1 + 1) (w.heap.size + 1 + 1 + 1) (w.heap.size + 1 + 1 + 1 + 1) (w.heap.size + 1 + 1 + 1 + 1 + 1) a0 w) (pre ++ [x]) W (.exit 0) act W3 := by
      intro W3 vF3 vV3 st3 h1 h2 h3 act
      refine ⟨h1.keeps _, ⟨rfl, pre, x, st, vF3, vV3, rfl, hgo, by rw [h2], by rw [h2]; exact h3⟩, hB.trans (h1.below hn0)⟩
    obtain ⟨con, fr, un, hline⟩ : ∃ con fr un, lineNo a0 x = ⟨con, fr, un⟩ := ⟨_, _, _, rfl⟩
    rw [hline] at hX hcon goes stops
    simp only [hline]
    dsimp only at hX hcon
    clear hsnoc hmap hline hgo
    obtain ⟨AF, cF, rfl⟩ := own_slice hP.oF
    have cX0 : W.cell? ⟨Bx, 0, none⟩ = some (.string con) := by simp [World.cell?, hX]
    have cX2 : W.cell? ⟨Bx, 2, none⟩ = some (.int .i64 (un : Int)) := by simp [World.cell?, hX]
    have cP0 : W.cell? ⟨w.heap.size, 0, none⟩ = some (.slice AF st.fs.length cF) := by simp [World.cell?, hP.c0]
    have cP2 : W.cell? ⟨w.heap.size + 1 + 1, 0, none⟩ = some (.func (.func 57) #[] #[.pointer (some ⟨w.heap.size, 0, none⟩), .pointer (some ⟨w.heap.size + 1, 0, none⟩)]) := by simp [World.cell?, hP.c2, FIN]
    have cP3 : W.cell? ⟨w.heap.size + 1 + 1 + 1, 0, none⟩ = some (.func (.func 59) #[] #[.pointer (some ⟨w.heap.size + 1, 0, none⟩)]) := by simp [World.cell?, hP.c3, ADD]
    have fP4 : W.frozen? ⟨w.heap.size + 1 + 1 + 1 + 1, 0, none⟩ = false := by simp [World.frozen?, hP.c4]
    have cP4 : W.cell? ⟨w.heap.size + 1 + 1 + 1 + 1, 0, none⟩ = some (.int .i64 (st.en : Int)) := by simp [World.cell?, hP.c4]
    have HP := Aside0.mk hP
    have HX := Aside0.mk hX
    have GO := Aside0.mk goes
    have ST := Aside0.mk stops
    clear hP hX goes stops
    by_cases z : con.size = 0
    · have hve : con.toList.isEmpty = true := by rw [toList_bl, List.isEmpty_iff_length_eq_zero, bl_length]; exact z
      have E : stepP st ⟨con, fr, un⟩ = (⟨st.fs, st.vs, un⟩, false) := by unfold stepP; rw [if_pos z]
      have HE := Aside0.mk E
      clear E z
      gi_wp2
      obtain ⟨h1, h2⟩ := en_ps HP.out (by omega) un
      exact ST.out _ _ _ _ h2 HE.out h1 _
    · have hvf : con.toList.isEmpty = false := by
        rw [toList_bl]
        cases h : bl con with
        | nil => exfalso; apply z; rw [← bl_length, h]; rfl
        | cons _ _ => rfl
      have k0 : ∀ hh, con[0]'hh = byteAt con 0 := fun hh => byteAt_get con 0 hh
      have hp : 0 < con.size := by omega
      have hpI : (0 : Int) < (con.size : Int) := by omega
      have b256 : (byteAt con 0).toNat < 256 := (byteAt con 0).toNat_lt
      have HBL := Aside0.mk (blank_at (byteAt con 0))
      by_cases hq : blankB (byteAt con 0) = true ∧ 0 < st.fs.length
      · have E : stepP st ⟨con, fr, un⟩ = (⟨st.fs, addV st.vs con, un⟩, true) := by unfold stepP; rw [if_neg z, if_pos hq]
        obtain ⟨hq1, hq2⟩ := hq
        have HE := Aside0.mk E
        have HQ := Aside0.mk hq1
        have hq3 : (0 : Int) < (st.fs.length : Int) := by omega
        clear E hq1 z
        gi_wp2_with fail
        refine (CallsIn.inRound l (callsIn_wide.2 (header_blank.calls _ _ _ HBL.out))).mono ?_
        rintro e w1 ⟨rfl, ⟨nd, rfl⟩⟩
        rw [HQ.out]
        gi_wp2_with fail
        refine (CallsIn.inRound l (callsIn_wide.2 (add_ps (pst_drewN HP.out nd) (by omega) con (by omega) (by omega) hn0))).mono ?_
        rintro e W1 ⟨rfl, ⟨vV1, hP1⟩, hS1⟩
        have hS2 := (((Stp.refl w.heap.size W).drewN nd).trans hS1)
        have hX1 := hS2.lv HX.out
        have cX2' : W1.cell? ⟨Bx, 2, none⟩ = some (.int .i64 (un : Int)) := by simp [World.cell?, hX1]
        have fP4' : W1.frozen? ⟨w.heap.size + 1 + 1 + 1 + 1, 0, none⟩ = false := by simp [World.frozen?, hP1.c4]
        have cP4' : W1.cell? ⟨w.heap.size + 1 + 1 + 1 + 1, 0, none⟩ = some (.int .i64 (st.en : Int)) := by simp [World.cell?, hP1.c4]
        have HP1 := Aside0.mk hP1
        have HS2 := Aside0.mk hS2
        clear hP1 hS1 hS2 hX1
        gi_wp2_with fail
        obtain ⟨h1, h2⟩ := en_ps HP1.out (by omega) un
        exact GO.out _ _ _ _ (HS2.out.trans h2) HE.out h1 _
      · obtain ⟨nm, re, fd, hcut⟩ : ∃ nm re fd, cutAt con 58 = (nm, re, fd) := ⟨_, _, _, rfl⟩
        have hsz2 := cutAt_two con 58
        rw [hcut] at hsz2
        dsimp only at hsz2
        obtain ⟨hs1, hs2⟩ := hsz2
        have hcf : strings_Cut.f con ⟨#[58]⟩ = some (nm, re, fd) := by
          unfold strings_Cut.f
          rw [if_pos ⟨by omega, rfl⟩]
          exact congrArg some hcut
        have HCF := Aside0.mk hcf
        have E : stepP st ⟨con, fr, un⟩ = if fd = false ∨ isNameB nm = false ∨ 400 ≤ st.fs.length then (st, false) else (⟨doneF st.fs st.vs ++ [⟨nm, ⟨#[]⟩⟩], addV [] re, un⟩, true) := by
          unfold stepP
          rw [if_neg z, if_neg hq, hcut]
        obtain ⟨kn, hkn⟩ := (isName_ev nm (by omega)).rounds
        have HN2 := Aside0.mk hkn
        clear hcf hcut hkn
        have both : (∃ bb, Aside0 (blankB (byteAt con 0) = bb) ∧ bb = false) ∨ (Aside0 (blankB (byteAt con 0) = true) ∧ st.fs.length = 0) := by
          cases hb : blankB (byteAt con 0) with
          | false => exact .inl ⟨false, .mk rfl, rfl⟩
          | true => exact .inr ⟨.mk rfl, by
              rcases Nat.eq_zero_or_pos st.fs.length with h | h
              · exact h
              · exact absurd ⟨hb, h⟩ hq⟩
        clear hq z
        have dI : ∀ (m : Nat), IntKind.i64.wrap (m : Int) = IntKind.i64.wrap (m : Int) := fun _ => rfl
        clear dI
        rcases Bool.eq_false_or_eq_true fd with rfl | rfl
        case inr =>
          rw [if_pos (.inl rfl)] at E
          have HE := Aside0.mk E
          clear E
          rcases both with ⟨bb, HQ, rfl⟩ | ⟨HQ, hq0⟩
          case' inr => rw [hq0] at cP0
          all_goals
            gi_wp2_with fail
            refine (CallsIn.inRound l (callsIn_wide.2 (header_blank.calls _ _ _ HBL.out))).mono ?_
            rintro e w1 ⟨rfl, ⟨nd, rfl⟩⟩
            rw [HQ.out]
            gi_wp2_with fail
            refine (CallsIn.inRound l (callsIn_wide.2 (strings_Cut.calls _ _ _ _ _ _ HCF.out))).mono ?_
            rintro e w1 ⟨rfl, ⟨nd2, rfl⟩⟩
            gi_wp2_with fail
            exact ST.out _ _ _ _ ((Stp.refl w.heap.size W).drewN _) HE.out (pst_drewN HP.out _) _
        case inl =>
        rcases Bool.eq_false_or_eq_true (isNameB nm) with hnm | hnm
        case inr =>
          rw [if_pos (.inr (.inl hnm))] at E
          have HE := Aside0.mk E
          rw [hnm] at HN2
          clear E hnm
          rcases both with ⟨bb, HQ, rfl⟩ | ⟨HQ, hq0⟩
          case' inr => rw [hq0] at cP0
          all_goals
            gi_wp2_with fail
            refine (CallsIn.inRound l (callsIn_wide.2 (header_blank.calls _ _ _ HBL.out))).mono ?_
            rintro e w1 ⟨rfl, ⟨nd, rfl⟩⟩
            rw [HQ.out]
            gi_wp2_with fail
            refine (CallsIn.inRound l (callsIn_wide.2 (strings_Cut.calls _ _ _ _ _ _ HCF.out))).mono ?_
            rintro e w1 ⟨rfl, ⟨nd2, rfl⟩⟩
            gi_wp2_with fail
            refine (CallsIn.inRound l (callsIn_wide.2 (header_isName.calls kn _ _ _ HN2.out))).mono ?_
            rintro e w1 ⟨rfl, ⟨nd3, rfl⟩⟩
            gi_wp2_with fail
            exact ST.out _ _ _ _ ((Stp.refl w.heap.size W).drewN _) HE.out (pst_drewN HP.out _) _
        case inl =>
        rw [hnm] at HN2
        rcases Nat.lt_or_ge st.fs.length 400 with h4 | h4
        case inr =>
          rw [if_pos (.inr (.inr h4))] at E
          have HE := Aside0.mk E
          have h4I : (400 : Int) ≤ (st.fs.length : Int) := by omega
          clear E hnm
          rcases both with ⟨bb, HQ, rfl⟩ | ⟨HQ, hq0⟩
          case' inr => omega
          all_goals
            gi_wp2_with fail
            refine (CallsIn.inRound l (callsIn_wide.2 (header_blank.calls _ _ _ HBL.out))).mono ?_
            rintro e w1 ⟨rfl, ⟨nd, rfl⟩⟩
            rw [HQ.out]
            gi_wp2_with fail
            refine (CallsIn.inRound l (callsIn_wide.2 (strings_Cut.calls _ _ _ _ _ _ HCF.out))).mono ?_
            rintro e w1 ⟨rfl, ⟨nd2, rfl⟩⟩
            gi_wp2_with fail
            refine (CallsIn.inRound l (callsIn_wide.2 (header_isName.calls kn _ _ _ HN2.out))).mono ?_
            rintro e w1 ⟨rfl, ⟨nd3, rfl⟩⟩
            gi_wp2_with fail
            exact ST.out _ _ _ _ ((Stp.refl w.heap.size W).drewN _) HE.out (pst_drewN HP.out _) _
        case inl =>
        have h4N : ¬ 400 ≤ st.fs.length := by omega
        rw [if_neg (by rintro (h | h | h) <;> first | (cases h; done) | (rw [hnm] at h; cases h; done) | omega)] at E
        have HE := Aside0.mk E
        have h4I : ¬ (400 : Int) ≤ (st.fs.length : Int) := by omega
        have h4J : (st.fs.length : Int) < 400 := by omega
        have hjs : (joinS st.vs).size ≤ 140737488355328 := by
          refine Nat.le_trans (joinS_size bM) (Nat.le_trans (Nat.mul_le_mul_right _ (show st.vs.length ≤ 8388609 by omega)) (by decide))
        obtain ⟨i0, hi, hz0, hz1, hz2⟩ := info_parts info35
        clear E hnm
        rcases both with ⟨bb, HQ, rfl⟩ | ⟨HQ, hq0⟩
        case' inr => rw [hq0] at cP0; clear hq0
        all_goals
          gi_wp2_with fail
          refine (CallsIn.inRound l (callsIn_wide.2 (header_blank.calls _ _ _ HBL.out))).mono ?_
          rintro e w1 ⟨rfl, ⟨nd, rfl⟩⟩
          rw [HQ.out]
          gi_wp2_with fail
          refine (CallsIn.inRound l (callsIn_wide.2 (strings_Cut.calls _ _ _ _ _ _ HCF.out))).mono ?_
          rintro e w1 ⟨rfl, ⟨nd2, rfl⟩⟩
          gi_wp2_with fail
          refine (CallsIn.inRound l (callsIn_wide.2 (header_isName.calls kn _ _ _ HN2.out))).mono ?_
          rintro e w1 ⟨rfl, ⟨nd3, rfl⟩⟩
          gi_wp2_with fail
          refine (CallsIn.inRound l (callsIn_wide.2 (fin_ps (pst_drewN HP.out _) (Nat.le_refl _) (by omega) (by omega) (by omega) hjs hn0))).mono ?_
          rintro e W1 ⟨rfl, hP1, hS1⟩
          have hS2 := (((Stp.refl w.heap.size W).drewN _).trans hS1)
          have hX1 := hS2.lv HX.out
          have cX2' : W1.cell? ⟨Bx, 2, none⟩ = some (.int .i64 (un : Int)) := by simp [World.cell?, hX1]
          have cP0' : W1.cell? ⟨w.heap.size, 0, none⟩ = some (.slice AF st.fs.length cF) := by simp [World.cell?, hP1.c0]
          have hn1 : w.heap.size ≤ W1.heap.size := Nat.le_trans hn0 hS2.size
          have HP1 := Aside0.mk hP1
          have HS2 := Aside0.mk hS2
          clear hP1 hS1 hS2 hX1
          have hfl := doneF_length st.fs st.vs
          have hoF := HP1.out.oF
          dsimp only at hoF
          rw [hfl] at hoF
          gi_wp2_with (gi_at_builtin; refine wpListIn_append_own _ rfl _ _ 33 rfl w.heap.size 35 i0 (.agg #[(.string ⟨#[]⟩), (.string ⟨#[]⟩)]) 2 32 Tryz.underlying33 hi hz0 hz1 hz2 rfl (by decide) _ _ _ rfl (hoF.alloc _) ⟨W1.heap.size, 0, none⟩ 1 1 [.string nm, .string ⟨#[]⟩] rfl rfl ?c1 ?c2 ?c3 ?c4 ?c5 ?_)
          case c1 =>
            intro j u hj
            match j, hj with
            | 0, hj => simp at hj; subst hj; exact World.cell?_alloc_new W1 _ _ _
            | 1, hj => simp at hj; subst hj; exact World.cell?_alloc_new W1 _ _ _
          case c2 => intro u hu; simp at hu; rcases hu with rfl | rfl <;> rfl
          case c3 => unfold maxLen; omega
          case c4 => omega
          case c5 => simp; omega
          intro v' w2 hown' hgrow _
          obtain ⟨gv, capv, rfl⟩ := ownsRow_succ hown'
          have hown2 := hown'
          rw [← hfl] at hown2
          obtain ⟨k1, k2, k3, k4⟩ := app_ps HP1.out (Nat.le_refl _) hn1 hown2 hgrow
          rw [hfl] at k3 k4
          have HK3 := Aside0.mk k3
          have HK4 := Aside0.mk (HS2.out.trans k4)
          have cA3 : (w2.setCell ⟨w.heap.size, 0, none⟩ (.slice (some ⟨gv, 0, none⟩) (st.fs.length + 1) capv)).cell? ⟨w.heap.size + 1 + 1 + 1, 0, none⟩ = some (.func (.func 59) #[] #[.pointer (some ⟨w.heap.size + 1, 0, none⟩)]) := cell_of k3.c3 rfl
          have hn2 := HK4.out.size
          have hX3 := HK4.out.lv HX.out
          have cX4 : (w2.setCell ⟨w.heap.size, 0, none⟩ (.slice (some ⟨gv, 0, none⟩) (st.fs.length + 1) capv)).cell? ⟨Bx, 2, none⟩ = some (.int .i64 (un : Int)) := cell_of hX3 rfl
          clear hown' hown2 hgrow k3 k4 hoF hX3
          gi_wp2_with fail
          refine (CallsIn.inRound l (callsIn_wide.2 (add_ps HK3.out (by omega) re (by omega) (Nat.zero_le _) (Nat.le_trans hn0 hn2)))).mono ?_
          rintro e W5 ⟨rfl, ⟨vV5, hP5⟩, hS5⟩
          have hS6 := HK4.out.trans hS5
          have hX6 := hS6.lv HX.out
          have cX6 : W5.cell? ⟨Bx, 2, none⟩ = some (.int .i64 (un : Int)) := cell_of hX6 rfl
          have fP6 : W5.frozen? ⟨w.heap.size + 1 + 1 + 1 + 1, 0, none⟩ = false := frozen_of hP5.c4
          have cP6 : W5.cell? ⟨w.heap.size + 1 + 1 + 1 + 1, 0, none⟩ = some (.int .i64 (st.en : Int)) := cell_of hP5.c4 rfl
          have HP5 := Aside0.mk hP5
          have HS6 := Aside0.mk hS6
          clear hP5 hS5 hS6 hX6
          gi_wp2_with fail
          obtain ⟨h1, h2⟩ := en_ps HP5.out (by omega) un
          exact GO.out _ _ _ _ (HS6.out.trans h2) HE.out h1 _
  case' done =>
    rintro D zs W hD hS ⟨⟨st, vF, vV, hgo, hP⟩, hB⟩ hK
    have hz : zs.length ≤ 8388609 := by rw [← List.length_map (f := lineNo a0), hS]; exact hN
    obtain ⟨bV, bM, bF⟩ := goP_bd (hM zs) (k := 0) (st := ⟨[], [], 0⟩) ⟨Nat.le_refl _, (fun v hv => by cases hv), Nat.zero_le _⟩ hgo
    rw [List.length_map] at bV
    replace bV : st.vs.length ≤ 8388610 := by omega
    have hfo := foldP_of_goP hgo
    rw [hS] at hfo
    clear hgo hS hz
  case' stop =>
    rintro D c pre W hD hS ⟨⟨rfl, pre0, x, st0, vF, vV, rfl, hgo, hx2, hP⟩, hB⟩ hK
    have hz : (pre0 ++ [x]).length ≤ 8388609 := by rw [← List.length_map (f := lineNo a0)]; exact Nat.le_trans hS.length_le hN
    obtain ⟨rest, hrest⟩ := hS
    have hbd := goP_bd (hM pre0) (k := 0) (st := ⟨[], [], 0⟩) ⟨Nat.le_refl _, (fun v hv => by cases hv), Nat.zero_le _⟩ hgo
    have hbd2 := stepP_bd (x := lineNo a0 x) hbd (Nat.le_trans (lineNo_con a0 x) hsz)
    have hfo := foldP_stop (rest := rest) hgo hx2
    rw [List.map_append, List.map_cons, List.map_nil] at hrest
    rw [hrest] at hfo
    generalize (stepP st0 (lineNo a0 x)).1 = st at *
    obtain ⟨bV, bM, bF⟩ := hbd2
    rw [List.length_map] at bV
    rw [List.length_append, List.length_singleton] at hz
    replace bV : st.vs.length ≤ 8388610 := by omega
    clear hgo hx2 hz hrest hbd
  all_goals
    have hn0 := hB.size
    have hjs : (joinS st.vs).size ≤ 140737488355328 := by
      refine Nat.le_trans (joinS_size bM) (Nat.le_trans (Nat.mul_le_mul_right _ bV) (by decide))
    have cP2 : W.cell? ⟨w.heap.size + 1 + 1, 0, none⟩ = some (.func (.func 57) #[] #[.pointer (some ⟨w.heap.size, 0, none⟩), .pointer (some ⟨w.heap.size + 1, 0, none⟩)]) := cell_of hP.c2 rfl
    have HP := Aside0.mk hP
    have HB := Aside0.mk hB
    have HK := Aside0.mk hK
    have HF := Aside0.mk hfo
    clear hP hB hK hfo
    gi_wp2_with fail
    refine (callsIn_wide.2 (fin_ps HP.out (Nat.le_refl _) (by omega) (by omega) (by omega) hjs hn0)).mono ?_
    rintro e W1 ⟨rfl, hP1, hS1⟩
    obtain ⟨AF, cF, rfl⟩ := own_slice hP1.oF
    have c0' : W1.cell? ⟨w.heap.size, 0, none⟩ = some (.slice AF (doneF st.fs st.vs).length cF) := cell_of hP1.c0 rfl
    have c4' : W1.cell? ⟨w.heap.size + 1 + 1 + 1 + 1, 0, none⟩ = some (.int .i64 (st.en : Int)) := cell_of hP1.c4 rfl
    have hK' := (hS1.keeps W0.heap.size).same D _ hD HK.out rfl
    have HP1 := Aside0.mk hP1
    have HS1 := Aside0.mk hS1
    have HK' := Aside0.mk hK'
    clear hP1 hS1 hK'
    gi_wp2_with fail
    have hmx : Tryz.prog.follows .mixedOrders = true := by kernel_rfl
    gi_region
    gi_wp2
    have hK2 : W1.drew.heap[D]? = some (.deferred (some [])) := HK'.out
    refine ⟨by simp, .inl ⟨D, _, rfl, run_takeDeferred hK2, ?_⟩⟩
    have hps : parseS a0 = (doneF st.fs st.vs, st.en) := by unfold parseS; rw [HF.out]
    have hP2 := pst_own _ _ (some D) (pst_drewN HP1.out 1) (grownBy_putObj' W1.drew D (.deferred none)) (fun r e => by cases e; exact ⟨_, hK2, rfl⟩)
    have hbel : Below w.heap.size w (W1.drew.putObj D (.deferred none)) := (HB.out.trans ((HS1.out.drewN 1).below hn0)).trans (belowK_b (w := w) (Nat.le_refl _) _ D _ _ (by omega) hK2 rfl rfl)
    rw [hps]
    exact ⟨_, by simp [results, Tryz.f22, go_sem], _, rfl, pst_result hP2, hbel⟩
end Go.Proofs.YtieompfmhnpnaaaGreat.H
end
