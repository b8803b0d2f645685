/- Part 2 of the proof of Hf: contracts and plain laws, joined and shortened by bundle.py of this repo. -/
import Derived.Test.YtieompfmhnpnaaaGreatKHf1
import Derived.Deep.WholeRow
import Derived.Deep.RegionHeld
import Derived.Lib.SliceRun
import Derived.Deep.RegionHeld3
import Derived.Lib.Bytealg
import Derived.Laws.IdiomCopy
section
namespace Go.Proofs.YtieompfmhnpnaaaGreat.H
open Go.RowKit Go.Proofs.YtieompfmhnpnaaaGreatW.PrintWords Go.Proofs.YtieompfmhnpnaaaGreatW.PrintLast Go.Proofs.YtieompfmhnpnaaaGreatW.PrintMore
set_option linter.unusedVariables false
set_option linter.unusedSimpArgs false
structure NewRep (B : Nat) (w : World) (g : Nat) (st : Int) (x0 x1 x2 x3 : ByteArray) : Prop where
  ge : B ≤ g
  done : w.cell? ⟨g, 0, none⟩ = some (.int .u32 0)
  state : w.cell? ⟨g, 1, none⟩ = some (.int .i32 st)
  r : w.cell? ⟨g, 3, none⟩ = some .nilIface
  fz : ∀ j, w.frozen? ⟨g, j, none⟩ = false
  row : ∃ h cap, B ≤ h ∧ h ≠ g ∧ w.cell? ⟨g, 4, none⟩ = some (.slice (some ⟨h, 0, none⟩) 4 cap) ∧
    w.cell? ⟨h, 0, none⟩ = some (.string x0) ∧ w.cell? ⟨h, 1, none⟩ = some (.string x1) ∧ w.cell? ⟨h, 2, none⟩ = some (.string x2) ∧ w.cell? ⟨h, 3, none⟩ = some (.string x3)
theorem NewRep.locked {B : Nat} {w : World} {g : Nat} {st : Int} {x0 x1 x2 x3 : ByteArray} (h : NewRep B w g st x0 x1 x2 x3) (v : Int) : NewRep B (w.setCell ⟨g, 1, none⟩ (.int .i32 v)) g v x0 x1 x2 x3 := by
  obtain ⟨hge, h0, h1, h3, hf, k, cap, hB, hne, h4, c0, c1, c2, c3⟩ := h
  have far : ∀ j : Nat, j ≠ 1 → (w.setCell ⟨g, 1, none⟩ (.int .i32 v)).cell? ⟨g, j, none⟩ = w.cell? ⟨g, j, none⟩ := fun j hj => World.cell?_setCell_other _ _ _ _ (fun e => by injection e with _ e2; exact hj e2.symm)
  have far2 : ∀ j : Nat, (w.setCell ⟨g, 1, none⟩ (.int .i32 v)).cell? ⟨k, j, none⟩ = w.cell? ⟨k, j, none⟩ := fun j => World.cell?_setCell_other _ _ _ _ (fun e => by injection e with e2 _; exact hne e2.symm)
  exact ⟨hge, (far 0 (by decide)).trans h0, World.cell?_setCell_same _ _ _ h1, (far 3 (by decide)).trans h3, fun j => by rw [World.frozen?_setCell]; exact hf j, k, cap, hB, hne, (far 4 (by decide)).trans h4, (far2 0).trans c0, (far2 1).trans c1, (far2 2).trans c2, (far2 3).trans c3⟩
set_option maxRecDepth 100000 in
set_option maxHeartbeats 1000000 in
theorem new_replacer (b : Nat) (x0 x1 x2 x3 : ByteArray) (w : World) (c0 : w.cell? ⟨b, 0, none⟩ = some (.string x0)) (c1 : w.cell? ⟨b, 1, none⟩ = some (.string x1)) (c2 : w.cell? ⟨b, 2, none⟩ = some (.string x2)) (c3 : w.cell? ⟨b, 3, none⟩ = some (.string x3)) :
    Calls Tryz.prog 52 #[.slice (some ⟨b, 0, none⟩) 4 4] w fun e w' => ∃ g, e = .returned (.pointer (some ⟨g, 0, none⟩)) ∧ NewRep w.heap.size w' g 0 x0 x1 x2 x3 ∧ Below w.heap.size w w' := by
  obtain ⟨i0, hi, hz0, hz1, hz2⟩ := info_parts info9
  have hown := World.ownsRow_nil w w.heap.size 9 1
  go_enter Tryz.func52, Tryz.ntmps52
  go_wp2_with fail
  generalize (Question.appendCap 4 0 9).cut (w.tape w.drawn (Question.appendCap 4 0 9)) = cap
  go_ret
  refine ⟨w.heap.size + 1, rfl, ?_, ?_⟩
  · obtain ⟨W, hW⟩ : ∃ W, W = w.alloc (Obj.cells (#[Value.string x0, Value.string x1, Value.string x2, Value.string x3] ++ Builtin.zeroCells #[Value.string { data := #[] }] (cap - 4)) 9) := ⟨_, rfl⟩
    have hn := heap_alloc_new W (Obj.cells #[Value.int IntKind.u32 0, Value.int IntKind.i32 0, Value.int IntKind.u32 0, Value.nilIface, Value.slice (some { block := w.heap.size, off := 0 }) 4 cap] 105)
    have hs : W.heap.size = w.heap.size + 1 := by rw [hW, World.size_alloc]
    rw [← hW]
    rw [hs] at hn
    have hh : ∀ j : Nat, ((W.alloc (Obj.cells #[Value.int IntKind.u32 0, Value.int IntKind.i32 0, Value.int IntKind.u32 0, Value.nilIface, Value.slice (some { block := w.heap.size, off := 0 }) 4 cap] 105)).drew).cell? ⟨w.heap.size, j, none⟩ = W.cell? ⟨w.heap.size, j, none⟩ := fun j => World.cell?_alloc_lt W _ ⟨w.heap.size, j, none⟩ (by show w.heap.size < W.heap.size; omega)
    refine ⟨by omega, ?_, ?_, ?_, fun j => ?_, w.heap.size, cap, Nat.le_refl _, by omega, ?_, ?_, ?_, ?_, ?_⟩
    · exact (Lib.cell_of_heap hn 0)
    · exact (Lib.cell_of_heap hn 1)
    · exact (Lib.cell_of_heap hn 3)
    · exact (Lib.frozen_of_heap hn j)
    · exact (Lib.cell_of_heap hn 4)
    all_goals (rw [hh, hW]; simp [Array.getElem?_append])
  · exact (((Below.refl _ _).alloc (Nat.le_refl _) _).alloc (by simp) _).drew
def idTab (n k : Nat) : List Int := (List.range n).map fun j => if j < k then (j : Int) else 0
theorem idTab_length (n k : Nat) : (idTab n k).length = n := by simp [idTab]
theorem idTab_set (n k : Nat) (h : k < n) : (idTab n k).set k (k : Int) = idTab n (k + 1) := by
  apply List.ext_getElem
  · simp [idTab]
  · intro i h1 h2
    simp [idTab, List.getElem_set]
    by_cases e : k = i
    · subst e; simp
    · rw [if_neg e]
      by_cases h3 : i < k
      · rw [if_pos h3, if_pos (by omega)]
      · rw [if_neg h3, if_neg (by omega)]
theorem idTab_zero (n : Nat) : idTab n 0 = List.replicate n 0 := by
  apply List.ext_getElem
  · simp [idTab]
  · intro i h1 h2
    simp [idTab]
def tabk (k : Nat) : List Int := idTab 256 k
theorem tabk_length (k : Nat) : (tabk k).length = 256 := idTab_length 256 k
theorem tabk_set (k : Nat) (h : k < 256) : (tabk k).set k (k : Int) = tabk (k + 1) := idTab_set 256 k h
theorem tabk_zero : tabk 0 = List.replicate 256 0 := idTab_zero 256
def tab2 (a0 a1 a2 a3 : UInt8) : List Int := ((tabk 256).set a2.toNat (a3.toNat : Int)).set a0.toNat (a1.toNat : Int)
theorem zeroCells128_eq : Tryz.zeroCells128 = (List.replicate 256 (Value.int .u8 0)).toArray := by kernel_rfl
def Stage3 (wr w1 w2 : World) (i : Value) (W : World) : Prop := (i = .int .i64 2 ∧ W = wr) ∨ (i = .int .i64 0 ∧ W = w1) ∨ (i = .int .i64 (-2) ∧ W = w2)
theorem zeros_at (w : World) (n j : Nat) (hj : j < n) : (w.alloc (Obj.cells (List.replicate n (Value.int .u8 0)).toArray 128)).cell? ⟨w.heap.size, j, none⟩ = some (.int .u8 ((List.replicate n (0 : Int)).getD j 0)) ∧ (w.alloc (Obj.cells (List.replicate n (Value.int .u8 0)).toArray 128)).frozen? ⟨w.heap.size, j, none⟩ = false := by
  refine ⟨?_, by simp⟩
  rw [World.cell?_alloc_new]
  simp [List.getD, hj]
set_option maxRecDepth 100000 in
set_option maxHeartbeats 1000000 in
theorem build_bytes (B g : Nat) (st : Int) (a0 a1 a2 a3 : UInt8) (w : World) (hr : NewRep B w g st ⟨#[a0]⟩ ⟨#[a1]⟩ ⟨#[a2]⟩ ⟨#[a3]⟩) :
    Calls Tryz.prog 95 #[.pointer (some ⟨g, 0, none⟩)] w fun e w' => ∃ h, e = .returned (.iface 129 (.pointer (some ⟨h, 0, none⟩))) ∧ w.heap.size ≤ h ∧ RowB w' h 256 (tab2 a0 a1 a2 a3) ∧ Below w.heap.size w w' := by
  obtain ⟨hge, -, -, -, -, h, cap, hB, hne, g4, c0, c1, c2, c3⟩ := hr
  have hlt : h < w.heap.size := World.block_lt_of_cell? w ⟨h, 0, none⟩ c0
  go_enter Tryz.func95, Tryz.ntmps95
  go_wp2_with fail
  go_loop [4, 5] (fun a i => ∃ k : Nat, k ≤ 2 ∧ a = .bool true ∧ i = .int .i64 (2 * k : Nat)) (fun _ i => (4 - intOf i).toNat)
  case atStart => exact ⟨0, by omega, rfl, rfl⟩
  case round =>
    obtain ⟨k, hk, rfl, rfl⟩ := hrel
    obtain rfl | rfl | rfl : k = 0 ∨ k = 1 ∨ k = 2 := by omega
    · go_wp2_with fail
      go_round
      case rel => exact ⟨1, by omega, rfl, rfl⟩
      case measure => simp [intOf]
    · go_wp2_with fail
      go_round
      case rel => exact ⟨2, by omega, rfl, rfl⟩
      case measure => simp [intOf]
    · have hst := run_storeCells_new (P := Tryz.prog) w 128 Tryz.zeroCells128 Tryz.zeroCells128 (by kernel_rfl) rfl (by kernel_rfl)
      go_wp2_with fail
      clear hst
      have hrow0 : RowB (w.alloc (Obj.cells Tryz.zeroCells128 128)) w.heap.size 256 (tabk 0) := fun j hj => by
        rw [zeroCells128_eq, tabk_zero]
        exact zeros_at w 256 j hj
      have hold0 : Below w.heap.size w (w.alloc (Obj.cells Tryz.zeroCells128 128)) := (Below.refl _ _).alloc (Nat.le_refl _) _
      go_loopw [61] (fun i wr => ∃ k : Nat, k ≤ 256 ∧ i = .int .i64 k ∧ RowB wr w.heap.size 256 (tabk k) ∧ Below w.heap.size w wr) (fun i _ => 256 - (intOf i).toNat)
      case atStart => exact ⟨0, by omega, rfl, hrow0, hold0⟩
      case round =>
        obtain ⟨k, hk, rfl, hown, hB1⟩ := hrel
        clear hrow0 hold0
        by_cases hk2 : k < 256
        · have hcell := (hown k hk2).1
          have hfz := (hown k hk2).2
          have hs := hown.set (tabk_length k) k hk2 (k : Int)
          rw [tabk_set k hk2] at hs
          have HS := Aside0.mk hs
          clear hs
          go_wp2_with fail
          go_roundw
          case rel => exact ⟨k + 1, by omega, by go_num, HS.out, hB1.setCell (p := ⟨w.heap.size, k, none⟩) (Nat.le_refl _) _⟩
          case measure => simp [intOf]; omega
        · have hkk : k = 256 := by omega
          subst hkk
          have d0 := pw_cell_below hB1 c0
          have d1 := pw_cell_below hB1 c1
          have d2 := pw_cell_below hB1 c2
          have d3 := pw_cell_below hB1 c3
          have b2 := a2.toNat_lt
          have b0 := a0.toNat_lt
          have e2 := hown a2.toNat b2
          have g0 : 0 ≤ (a0.toNat : Int) := by omega
          have g2 : 0 ≤ (a2.toNat : Int) := by omega
          have hs2 := hown.set (tabk_length 256) a2.toNat b2 (a3.toNat : Int)
          have hs0 := hs2.set (by simp [tabk_length]) a0.toNat b0 (a1.toNat : Int)
          have e0 := hs2 a0.toNat b0
          obtain ⟨e2a, e2b⟩ := e2
          obtain ⟨e0a, e0b⟩ := e0
          have f0 : (wr.setCell ⟨w.heap.size, a2.toNat, none⟩ (.int .u8 (a3.toNat : Int))).cell? ⟨h, 0, none⟩ = some (.string ⟨#[a0]⟩) := (World.cell?_setCell_far wr ⟨w.heap.size, a2.toNat, none⟩ ⟨h, 0, none⟩ _ (by simp; omega)).trans d0
          have f1 : (wr.setCell ⟨w.heap.size, a2.toNat, none⟩ (.int .u8 (a3.toNat : Int))).cell? ⟨h, 1, none⟩ = some (.string ⟨#[a1]⟩) := (World.cell?_setCell_far wr ⟨w.heap.size, a2.toNat, none⟩ ⟨h, 1, none⟩ _ (by simp; omega)).trans d1
          have HS0 := Aside0.mk hs0
          have HB1 := Aside0.mk hB1
          clear hs0 hs2 hown hB1 c0 c1 c2 c3
          have k0 : ∀ hh : 0 < (⟨#[a0]⟩ : ByteArray).size, (⟨#[a0]⟩ : ByteArray)[0]'hh = a0 := fun _ => rfl
          have k1 : ∀ hh : 0 < (⟨#[a1]⟩ : ByteArray).size, (⟨#[a1]⟩ : ByteArray)[0]'hh = a1 := fun _ => rfl
          have k2 : ∀ hh : 0 < (⟨#[a2]⟩ : ByteArray).size, (⟨#[a2]⟩ : ByteArray)[0]'hh = a2 := fun _ => rfl
          have k3 : ∀ hh : 0 < (⟨#[a3]⟩ : ByteArray).size, (⟨#[a3]⟩ : ByteArray)[0]'hh = a3 := fun _ => rfl
          go_wp2_with fail
          obtain ⟨w1, hw1⟩ : ∃ w1, w1 = wr.setCell ⟨w.heap.size, a2.toNat, none⟩ (.int .u8 (a3.toNat : Int)) := ⟨_, rfl⟩
          rw [← hw1] at f0 f1 e0a e0b HS0
          have HW := Aside0.mk hw1
          clear hw1
          go_loopw [8] (Stage3 wr w1 (w1.setCell ⟨w.heap.size, a0.toNat, none⟩ (.int .u8 (a1.toNat : Int)))) (fun i _ => (intOf i + 2).toNat)
          case atStart => exact .inl ⟨rfl, rfl⟩
          case round =>
            rcases hrel with ⟨rfl, rfl⟩ | ⟨rfl, rfl⟩ | ⟨rfl, rfl⟩
            · go_wp2_with fail
              go_roundw
              case rel => exact .inr (.inl ⟨rfl, HW.out.symm⟩)
              case measure => simp [intOf]
            · go_wp2_with fail
              go_roundw
              case rel => exact .inr (.inr ⟨rfl, rfl⟩)
              case measure => simp [intOf]
            · go_wp2_with fail
              go_ret
              refine ⟨w.heap.size, rfl, Nat.le_refl _, HS0.out, ?_⟩
              rw [HW.out]
              exact (HB1.out.setCell (p := ⟨w.heap.size, a2.toNat, none⟩) (Nat.le_refl _) _).setCell (p := ⟨w.heap.size, a0.toNat, none⟩) (Nat.le_refl _) _
theorem RowB.far {w : World} {g h n : Nat} {xs : List Int} (r : RowB w h n xs) (hne : g ≠ h) (j : Nat) (v : Value) : RowB (w.setCell ⟨g, j, none⟩ v) h n xs := fun i hi =>
  ⟨(World.cell?_setCell_far w ⟨g, j, none⟩ ⟨h, i, none⟩ v hne).trans (r i hi).1, by rw [World.frozen?_setCell]; exact (r i hi).2⟩
def Tabled (B g : Nat) (tab : List Int) (w0 w : World) : Prop := ∃ h, B ≤ h ∧ h ≠ g ∧ w.cell? ⟨g, 3, none⟩ = some (.iface 129 (.pointer (some ⟨h, 0, none⟩))) ∧ RowB w h 256 tab ∧ Below B w0 w
set_option maxRecDepth 100000 in
set_option maxHeartbeats 1000000 in
theorem buildOnce_bytes (B g : Nat) (a0 a1 a2 a3 : UInt8) (w : World) (hr : NewRep B w g 1 ⟨#[a0]⟩ ⟨#[a1]⟩ ⟨#[a2]⟩ ⟨#[a3]⟩) :
    Calls Tryz.prog 81 #[.pointer (some ⟨g, 0, none⟩)] w fun e w' => e = .returned (.tuple #[]) ∧ Held w' g ∧ Tabled B g (tab2 a0 a1 a2 a3) w w' := by
  have HR := Aside0.mk hr
  have hge := hr.ge
  have hlt : g < w.heap.size := World.block_lt_of_cell? w ⟨g, 0, none⟩ hr.done
  go_enter Tryz.func81, Tryz.ntmps81
  go_wp2_with fail
  refine (build_bytes B g 1 a0 a1 a2 a3 w HR.out).mono ?_
  rintro e w1 ⟨h, rfl, hh, hrow, hb⟩
  have d0 := pw_cell_below hb HR.out.done
  have d1 := pw_cell_below hb HR.out.state
  have d3 := pw_cell_below hb HR.out.r
  obtain ⟨k, cap, -, -, d4', -⟩ := HR.out.row
  have d4 := pw_cell_below hb d4'
  clear d4'
  have fz : ∀ j, w1.frozen? ⟨g, j, none⟩ = false := fun j => (hb.frozen (p := ⟨g, j, none⟩) hlt).trans (HR.out.fz j)
  have f3 := fz 3
  have f4 := fz 4
  have HROW := Aside0.mk hrow
  have HB := Aside0.mk hb
  have FZ := Aside0.mk fz
  clear hrow hb fz hr
  go_wp2_with fail
  go_end0
  have hgh : g ≠ h := by omega
  have hBw : Below B w w1 := HB.out.mono (by omega)
  refine ⟨rfl, ⟨?_, ?_, ?_, ?_⟩, h, by omega, by omega, ?_, ?_, (hBw.setCell (p := ⟨g, 3, none⟩) hge _).setCell (p := ⟨g, 4, none⟩) hge _⟩
  · exact (World.cell?_setCell_other _ ⟨g, 4, none⟩ ⟨g, 0, none⟩ _ (by simp)).trans ((World.cell?_setCell_other _ ⟨g, 3, none⟩ ⟨g, 0, none⟩ _ (by simp)).trans d0)
  · exact (World.cell?_setCell_other _ ⟨g, 4, none⟩ ⟨g, 1, none⟩ _ (by simp)).trans ((World.cell?_setCell_other _ ⟨g, 3, none⟩ ⟨g, 1, none⟩ _ (by simp)).trans d1)
  · rw [World.frozen?_setCell, World.frozen?_setCell]; exact FZ.out 0
  · rw [World.frozen?_setCell, World.frozen?_setCell]; exact FZ.out 1
  · exact (World.cell?_setCell_other _ ⟨g, 4, none⟩ ⟨g, 3, none⟩ _ (by simp)).trans (World.cell?_setCell_same _ _ _ d3)
  · exact (HROW.out.far hgh 3 _).far hgh 4 _
end Go.Proofs.YtieompfmhnpnaaaGreat.H
namespace Go.Proofs.YtieompfmhnpnaaaGreat.H
open Go.RowKit Go.Proofs.YtieompfmhnpnaaaGreatW.PrintWords Go.Proofs.YtieompfmhnpnaaaGreatW.PrintLast Go.Proofs.YtieompfmhnpnaaaGreatW.PrintMore
set_option linter.unusedVariables false
set_option linter.unusedSimpArgs false
def tv (tab : List Int) (c : UInt8) : Int := tab.getD c.toNat 0
def tabRow (s : ByteArray) (tab : List Int) (k : Nat) : List Int := (s.data.toList.take k).map (tv tab) ++ (s.data.toList.drop k).map (fun c => (c.toNat : Int))
def tabS (s : ByteArray) (tab : List Int) : ByteArray := strOfNums (s.data.toList.map (tv tab))
theorem tabRow_length (s : ByteArray) (tab : List Int) (k : Nat) (h : k ≤ s.size) : (tabRow s tab k).length = s.size := by
  have : s.data.toList.length = s.size := by simp
  simp [tabRow]
  omega
theorem tabRow_at (s : ByteArray) (tab : List Int) (k : Nat) (h : k < s.size) : (tabRow s tab k).getD k 0 = (s[k].toNat : Int) := by
  have hl : s.data.toList.length = s.size := by simp
  unfold tabRow
  rw [List.getD_eq_getElem?_getD, List.getElem?_append_right (by simp; omega)]
  simp
  rw [Nat.min_eq_left (by omega)]
  simp [h]
  rfl
theorem tabRow_set (s : ByteArray) (tab : List Int) (k : Nat) (h : k < s.size) : (tabRow s tab k).set k (tv tab s[k]) = tabRow s tab (k + 1) := by
  have hl : s.data.toList.length = s.size := by simp
  have hk : k < s.data.toList.length := by omega
  unfold tabRow
  rw [List.set_append_right _ _ (by simp; omega)]
  rw [List.take_succ_eq_append_getElem hk, List.map_append, List.append_assoc]
  congr 1
  have e : s.data.toList.drop k = s.data.toList[k] :: s.data.toList.drop (k + 1) := List.drop_eq_getElem_cons hk
  rw [e]
  simp
  rw [Nat.min_eq_left (by omega)]
  simp
  rfl
theorem tabRow_same (s : ByteArray) (tab : List Int) (k : Nat) (h : k < s.size) (he : tv tab s[k] = (s[k].toNat : Int)) : tabRow s tab (k + 1) = tabRow s tab k := by
  rw [← tabRow_set s tab k h, he]
  have hl := tabRow_length s tab k (by omega)
  apply List.ext_getElem
  · simp
  · intro i h1 h2
    rw [List.getElem_set]
    by_cases e : k = i
    · subst e
      rw [if_pos rfl]
      have := tabRow_at s tab k h
      rw [List.getD_eq_getElem?_getD, List.getElem?_eq_getElem h2] at this
      simpa using this.symm
    · rw [if_neg e]
theorem tabRow_end (s : ByteArray) (tab : List Int) : strOfNums (tabRow s tab s.size) = tabS s tab := by
  have hl : s.data.toList.length = s.size := by simp
  unfold tabRow tabS
  rw [List.drop_of_length_le (by omega), List.take_of_length_le (by omega)]
  simp
theorem tabRow_zero (s : ByteArray) (tab : List Int) : strOfNums (tabRow s tab 0) = s := by
  unfold tabRow
  have := byteInts_back s.data.toList
  unfold byteInts at this
  simpa using this
def BufSt (B : Nat) (s : ByteArray) (tab : List Int) (k : Nat) (v : Value) (w : World) : Prop :=
  (v = .slice none 0 0 ∧ tabRow s tab k = tabRow s tab 0) ∨ ∃ g cap, B ≤ g ∧ v = .slice (some ⟨g, 0, none⟩) s.size cap ∧ RowB w g s.size (tabRow s tab k)
theorem row_of_bytes (w : World) (s : ByteArray) (tab : List Int) : RowB (Lib.bytesWorld w 5 s) w.heap.size s.size (tabRow s tab 0) := fun j hj => by
  refine ⟨?_, ?_⟩
  · rw [Lib.bytesWorld_cell w 5 s j hj]
    simp [tabRow, List.getD, hj]
  · have hb := Lib.bytesWorld_at_new w 5 s
    have hz : s.size ≤ (Lib.bytesCells w 5 s).size := by simp [Lib.bytesCells]
    unfold World.frozen?
    rw [show (Lib.bytesWorld w 5 s).heap[(⟨w.heap.size, j, none⟩ : Addr).block]? = _ from hb]
    simp
    omega
theorem below_bytes {B : Nat} {w W : World} (h : Below B w W) (hB : B ≤ W.heap.size) (s : ByteArray) : Below B w (Lib.bytesWorld W 5 s) := by
  refine h.trans ⟨rfl, rfl, rfl, ?_, fun i hi => Lib.bytesWorld_at_old W 5 s i (by omega)⟩
  rw [Lib.bytesWorld_size]
  omega
theorem RowB.below {w w1 : World} {h n : Nat} {xs : List Int} {B : Nat} (r : RowB w h n xs) (hb : Below B w w1) (hB : h < B) : RowB w1 h n xs := fun j hj =>
  ⟨(hb.cell (p := ⟨h, j, none⟩) hB).trans (r j hj).1, (hb.frozen (p := ⟨h, j, none⟩) hB).trans (r j hj).2⟩
set_option maxRecDepth 100000 in
set_option maxHeartbeats 1000000 in
theorem byteReplace (h : Nat) (tab : List Int) (s : ByteArray) (w : World) (hs : s.size ≤ 1099511627776) (hr : RowB w h 256 tab) (hlt : h < w.heap.size) :
    Calls Tryz.prog 156 #[.pointer (some ⟨h, 0, none⟩), .string s] w fun e w' => e = .returned (.string (tabS s tab)) ∧ Below w.heap.size w w' := by
  have hcv : ∀ W : World, (convert 9 45 (.string s)).run Tryz.prog W = .ok (.slice (some ⟨W.heap.size, 0, none⟩) s.size (grownCap W s.size 0 5)) (Lib.bytesWorld W 5 s) := fun W => Lib.run_convert_string_bytes W 9 45 5 s Tryz.underlying9 Tryz.underlying45 Tryz.underlying5
  have qT : ∀ (w : World) (a : Option Addr) (n c n' c' : Nat), (binOp .eql 45 (.slice a n c) (.slice none n' c')).run Tryz.prog w = .ok (.bool a.isNone) w := fun w a n c n' c' => Lib.run_eql_slice_nil w _ _ a n c n' c' Tryz.underlying45
  go_enter Tryz.func156, Tryz.ntmps156
  go_wp2_with fail
  go_loopw [5, 6] (fun v i wr => ∃ k : Nat, k ≤ s.size ∧ i = .int .i64 k ∧ BufSt w.heap.size s tab k v wr ∧ Below w.heap.size w wr) (fun _ i _ => s.size - (intOf i).toNat)
  case atStart => exact ⟨0, Nat.zero_le _, rfl, .inl ⟨rfl, rfl⟩, Below.refl _ _⟩
  case round =>
    obtain ⟨k, hk, rfl, hbuf, hB⟩ := hrel
    have hr1 := hr.below hB hlt
    by_cases hk2 : k < s.size
    · have hc := s[k].toNat_lt
      have g0 : 0 ≤ (s[k].toNat : Int) := by omega
      have hcell := (hr1 s[k].toNat hc).1
      have htv : tab.getD s[k].toNat 0 = tv tab s[k] := rfl
      rw [htv] at hcell
      by_cases he : tv tab s[k] = (s[k].toNat : Int)
      · have hb : (tv tab s[k] != (s[k].toNat : Int)) = false := by simpa using he
        have hsame := tabRow_same s tab k hk2 he
        have HS := Lib.hid hsame
        have HBUF := Aside0.mk hbuf
        clear hsame he hbuf htv hr1 hr
        go_wp2_with fail
        go_roundw
        case rel =>
          refine ⟨k + 1, by omega, by go_num, ?_, hB⟩
          unfold BufSt
          rw [HS.out]
          exact HBUF.out
        case measure => simp [intOf]; omega
      · have hb : (tv tab s[k] != (s[k].toNat : Int)) = true := by simpa using he
        rcases hbuf with ⟨rfl, h0⟩ | ⟨g, cap, hg, rfl, hrow⟩
        · have hrow := row_of_bytes wr s tab
          rw [← h0] at hrow
          have hcell2 := (((hr.below hB hlt).below (below_bytes (Below.refl wr.heap.size wr) (Nat.le_refl _) s) (by have := hB.size; omega)) s[k].toNat hc).1
          rw [htv] at hcell2
          have hk0 := (hrow k hk2).1
          have hkf := (hrow k hk2).2
          have hset := hrow.set (tabRow_length s tab k (by omega)) k hk2 (tv tab s[k])
          rw [tabRow_set s tab k hk2] at hset
          have HSET := Aside0.mk hset
          have HB2 := Aside0.mk (below_bytes hB hB.size s)
          clear hset hrow h0 he htv hr1 hr
          have hsz := hB.size
          go_wp2_with fail
          go_roundw
          case rel => exact ⟨k + 1, by omega, by go_num, .inr ⟨wr.heap.size, _, hsz, rfl, HSET.out⟩, HB2.out.setCell (p := ⟨wr.heap.size, k, none⟩) hsz _⟩
          case measure => simp [intOf]; omega
        · have hk0 := (hrow k hk2).1
          have hkf := (hrow k hk2).2
          have hset := hrow.set (tabRow_length s tab k (by omega)) k hk2 (tv tab s[k])
          rw [tabRow_set s tab k hk2] at hset
          have HSET := Aside0.mk hset
          clear hset hrow he htv hr1 hr
          go_wp2_with fail
          go_roundw
          case rel => exact ⟨k + 1, by omega, by go_num, .inr ⟨g, cap, hg, rfl, HSET.out⟩, hB.setCell (p := ⟨g, k, none⟩) hg _⟩
          case measure => simp [intOf]; omega
    · have hkk : k = s.size := by omega
      subst hkk
      rcases hbuf with ⟨rfl, h0⟩ | ⟨g, cap, hg, rfl, hrow⟩
      · have hend := tabRow_end s tab
        rw [h0, tabRow_zero] at hend
        have HE := Lib.hid hend
        clear hend h0 hr hr1
        go_wp2_with fail
        go_ret
        exact ⟨congrArg (fun x => Ending.returned (Value.string x)) HE.out, hB⟩
      · have hc := fun cap => run_convert_bytes_arg (P := Tryz.prog) wr 45 5 Tryz.underlying45 Tryz.underlying5 g 0 s.size cap _ (tabRow_length s tab _ (Nat.le_refl _)) (fun i hi => by rw [Nat.zero_add]; exact (hrow i hi).1) 9 Tryz.underlying9
        rw [tabRow_end] at hc
        clear hr hr1 hrow
        go_wp2_with fail
        go_ret
        exact ⟨rfl, hB⟩
theorem method129 (a : Addr) (w : World) : (method 290 129 (.pointer (some a)) "Replace").run Tryz.prog w = .ok (156, .pointer (some a)) w := by kernel_rfl
set_option maxRecDepth 100000 in
set_option maxHeartbeats 1000000 in
theorem replace_bytes (B g : Nat) (a0 a1 a2 a3 : UInt8) (s : ByteArray) (w : World) (hs : s.size ≤ 1099511627776) (hB : B ≤ w.heap.size) (hr : NewRep B w g 0 ⟨#[a0]⟩ ⟨#[a1]⟩ ⟨#[a2]⟩ ⟨#[a3]⟩) :
    Calls Tryz.prog 53 #[.pointer (some ⟨g, 0, none⟩), .string s] w fun e w' => e = .returned (.string (tabS s (tab2 a0 a1 a2 a3))) ∧ Below B w w' := by
  have hge := hr.ge
  have hlock := hr.locked 1
  have hfn := buildOnce_bytes B g a0 a1 a2 a3 _ hlock
  have hfresh : Fresh w g := ⟨hr.done, hr.state, hr.fz 0, hr.fz 1⟩
  have HFN := Aside0.mk hfn
  clear hfn hlock hr
  go_enter Tryz.func53, Tryz.ntmps53
  go_wp2_with fail
  refine (do_first g w hfresh _ HFN.out).mono ?_
  rintro e w1 ⟨rfl, w2, ⟨h, hh, hhg, hc3, hrow, hb⟩, hw⟩
  have e3 : w1.cell? ⟨g, 3, none⟩ = some (.iface 129 (.pointer (some ⟨h, 0, none⟩))) := by
    rw [hw]
    exact (World.cell?_setCell_other _ ⟨g, 1, none⟩ ⟨g, 3, none⟩ _ (by simp)).trans ((World.cell?_setCell_other _ ⟨g, 0, none⟩ ⟨g, 3, none⟩ _ (by simp)).trans hc3)
  have hrow1 : RowB w1 h 256 (tab2 a0 a1 a2 a3) := by
    rw [hw]
    exact (RowB.far (w := w2.drew) hrow (Ne.symm hhg) 0 _).far (Ne.symm hhg) 1 _
  have hb1 : Below B w w1 := by
    rw [hw]
    exact (((((Below.refl B w).setCell (p := ⟨g, 1, none⟩) hge _).trans hb).drew).setCell (p := ⟨g, 0, none⟩) hge _).setCell (p := ⟨g, 1, none⟩) hge _
  have hlt : h < w1.heap.size := World.block_lt_of_cell? w1 ⟨h, 0, none⟩ (hrow1 0 (by decide)).1
  clear hw hrow hb hc3
  have HROW := Aside0.mk hrow1
  have HB := Aside0.mk hb1
  clear hrow1 hb1
  have hm := method129
  go_wp2_with fail
  refine (byteReplace h _ s w1 hs HROW.out hlt).mono ?_
  rintro e w3 ⟨rfl, hb3⟩
  have HB3 := Aside0.mk hb3
  clear hb3
  go_wp2_with fail
  go_ret
  exact ⟨rfl, HB.out.trans (HB3.out.mono (by have := HB.out.size; omega))⟩
end Go.Proofs.YtieompfmhnpnaaaGreat.H
end
section
namespace Go.Proofs.YtieompfmhnpnaaaGreat.H
open Go.RowKit Go.Proofs.YtieompfmhnpnaaaGreatW.PrintWords Go.Proofs.YtieompfmhnpnaaaGreatW.PrintLast Go.Proofs.YtieompfmhnpnaaaGreatW.PrintMore
set_option linter.unusedVariables false
set_option linter.unusedSimpArgs false
def Bld (B bb : Nat) (l : List UInt8) (w : World) : Prop := Lib.IsBuilderF 66 5 B bb (Lib.byteCells l) w
theorem byteCells_append (l m : List UInt8) : Lib.byteCells (l ++ m) = Lib.byteCells l ++ Lib.byteCells m := by simp [Lib.byteCells]
structure BKept (B bb : Nat) (w w' : World) : Prop where
  below : Below B w w'
  others : Lib.OthersKept 5 (some bb) w w'
theorem BKept.refl (B bb : Nat) (w : World) : BKept B bb w w := ⟨Below.refl _ _, Lib.OthersKept.refl _ _ _⟩
theorem BKept.trans {B bb : Nat} {a b c : World} (h : BKept B bb a b) (k : BKept B bb b c) : BKept B bb a c := ⟨h.below.trans k.below, h.others.trans k.others⟩
theorem BKept.drawn {B bb : Nat} {a b c : World} (h : BKept B bb a b) (k : Drawn0 b c) : BKept B bb a c := by
  obtain ⟨n, rfl⟩ := k
  exact ⟨pw_below_drewN h.below n, fun i o hi hb ho => h.others i o hi hb ho⟩
theorem BKept.made {B bb : Nat} {a b c : World} (h : BKept B bb a b) (k : Below b.heap.size b c) (hB : B ≤ b.heap.size) : BKept B bb a c :=
  ⟨h.below.trans (k.mono hB), fun i o hi hb ho => by
    have h1 := h.others i o hi hb ho
    exact (k.block i (Array.getElem?_eq_some_iff.1 h1).1).trans h1⟩
theorem Bld.keep {B bb : Nat} {l : List UInt8} {a b : World} (h : Bld B bb l a) (k : Below a.heap.size a b) : Bld B bb l b := by
  have key : ∀ p, Lib.BuilderAtF 66 5 B bb p (Lib.byteCells l) a → Lib.BuilderAtF 66 5 B bb p (Lib.byteCells l) b := fun p hp => by
    obtain ⟨h1, v, h2, h3, h4⟩ := hp
    exact ⟨h1, v, (k.block bb (Array.getElem?_eq_some_iff.1 h2).1).trans h2, h3.kept (grown_of_below k none) (by cases v.ownBlock <;> simp), h4⟩
  rcases h with h | h
  · exact .inl (key _ h)
  · exact .inr (key _ h)
theorem wstr (B bb : Nat) (l : List UInt8) (s : ByteArray) (w : World) (h : Bld B bb l w) (hlen : l.length + s.size ≤ 140737488355328) (hB : B ≤ w.heap.size) :
    Calls Tryz.prog 51 #[.pointer (some ⟨bb, 0, none⟩), .string s] w fun e w' => e = .returned (.tuple #[.int .i64 s.size, .nilIface]) ∧ Bld B bb (l ++ s.data.toList) w' ∧ BKept B bb w w' := by
  refine (Tryz.WriteString B bb (Lib.byteCells l) s w h (by rw [Lib.byteCells_length]; exact hlen) hB).mono ?_
  rintro e w' ⟨rfl, h1, h2, h3⟩
  exact ⟨rfl, .inr (by rw [byteCells_append]; exact h1), h2, h3⟩
theorem wbyte (B bb : Nat) (l : List UInt8) (c : UInt8) (w : World) (h : Bld B bb l w) (hlen : l.length + 1 ≤ 140737488355328) (hB : B ≤ w.heap.size) :
    Calls Tryz.prog 83 #[.pointer (some ⟨bb, 0, none⟩), .int .u8 c.toNat] w fun e w' => e = .returned .nilIface ∧ Bld B bb (l ++ [c]) w' ∧ BKept B bb w w' := by
  refine (Tryz.WriteByte B bb (Lib.byteCells l) c.toNat w h (by rw [Lib.byteCells_length]; exact hlen) hB).mono ?_
  rintro e w' ⟨rfl, h1, h2, h3⟩
  exact ⟨rfl, .inr (by rw [byteCells_append]; exact h1), h2, h3⟩
theorem boxed_cell {w : World} {x bb : Nat} (h : w.heap[x]? = some (.cells #[.pointer (some ⟨bb, 0, none⟩)] 64 (0, 0))) : w.cell? ⟨x, 0, none⟩ = some (.pointer (some ⟨bb, 0, none⟩)) := by
  simp [World.cell?, h]
theorem BKept.box {B bb x : Nat} {w w' : World} (h : BKept B bb w w') (hx : w.heap[x]? = some (.cells #[.pointer (some ⟨bb, 0, none⟩)] 64 (0, 0))) (hne : x ≠ bb) : w'.heap[x]? = some (.cells #[.pointer (some ⟨bb, 0, none⟩)] 64 (0, 0)) :=
  h.others x _ hx (fun e => hne (Option.some.inj e)) (fun c fz e => by injection e with _ e2; exact absurd e2 (by decide))
set_option maxHeartbeats 1000000 in
set_option maxRecDepth 100000 in
theorem end_calls (B bb x : Nat) (l : List UInt8) (s : ByteArray) (w : World) (h : Bld B bb l w) (hlen : l.length + s.size + 1 ≤ 140737488355328) (hB : B ≤ w.heap.size) (hx : w.heap[x]? = some (.cells #[.pointer (some ⟨bb, 0, none⟩)] 64 (0, 0))) (hne : x ≠ bb) :
    Calls Tryz.prog 82 #[.string s, .pointer (some ⟨x, 0, none⟩)] w fun e w' => e = .returned (.tuple #[]) ∧ Bld B bb (l ++ (s.data.toList ++ [10])) w' ∧ BKept B bb w w' := by
  have hc := boxed_cell hx
  have H := Aside0.mk h
  have HX := Aside0.mk hx
  clear h hx
  go_enter Tryz.func82, Tryz.ntmps82
  go_wp2_with fail
  refine (wstr B bb l s w H.out (by omega) hB).mono ?_
  rintro e w1 ⟨rfl, h1, k1⟩
  have H1 := Aside0.mk h1
  have hB1 : B ≤ w1.heap.size := by have := k1.below.size; omega
  have hx1 := k1.box HX.out hne
  have hc1 := boxed_cell hx1
  have K1 := Aside0.mk k1
  clear h1 k1 hx1
  go_wp2_with fail
  refine (wbyte B bb (l ++ s.data.toList) 10 w1 H1.out (by simp; omega) hB1).mono ?_
  rintro e w2 ⟨rfl, h2, k2⟩
  have H2 := Aside0.mk h2
  have K2 := Aside0.mk k2
  clear h2 k2
  go_wp2_with fail
  go_end0
  exact ⟨rfl, by rw [← List.append_assoc]; exact H2.out, K1.out.trans K2.out⟩
def foldL : Nat → ByteArray → Nat → List UInt8
  | 0, s, _ => s.data.toList ++ [10]
  | f + 1, s, bound =>
    if s.size ≤ 78 then s.data.toList ++ [10]
    else if 0 < foldAtS s bound then (s.extract 0 (foldAtS s bound)).data.toList ++ [10] ++ foldL f (s.extract (foldAtS s bound) s.size) 0
    else if s.size ≤ 998 then s.data.toList ++ [10]
    else (s.extract 0 998).data.toList ++ [10] ++ foldL f (⟨#[32]⟩ ++ s.extract 998 s.size) 0
theorem downTo_le (p : Nat → Bool) (lo n : Nat) : downTo p lo n ≤ n := by
  induction n with
  | zero => exact Nat.le_refl _
  | succ n ih => unfold downTo; split <;> (try split) <;> omega
theorem upTo_lt (p : Nat → Bool) : ∀ f i, (upTo p i f < i + f ∧ 0 < f) ∨ upTo p i f = 0
  | 0, i => .inr rfl
  | f + 1, i => by
    unfold upTo
    split
    · left; omega
    · rcases upTo_lt p f (i + 1) with h | h
      · left; omega
      · right; exact h
theorem foldAtS_le (s : ByteArray) (bound : Nat) : foldAtS s bound ≤ s.size := by
  unfold foldAtS
  simp only
  split
  · rcases upTo_lt (isFoldB s) (min 998 (s.size - 2) - max 78 bound) (max 78 bound + 1) with h | h <;> omega
  · have := downTo_le (isFoldB s) bound (min 78 (min 998 (s.size - 2)))
    omega
def FoldRest (l : List UInt8) (s0 : ByteArray) (b0 : Nat) (l' : List UInt8) (s : ByteArray) (b : Nat) : Prop :=
  ∃ f, s.size ≤ f ∧ l ++ foldL s0.size s0 b0 = l' ++ foldL f s b
theorem FoldRest.cut {l : List UInt8} {s0 : ByteArray} {b0 : Nat} {l' : List UInt8} {s : ByteArray} {b : Nat} (h : FoldRest l s0 b0 l' s b) (h78 : 78 < s.size) (hi : 0 < foldAtS s b) :
    FoldRest l s0 b0 (l' ++ ((s.extract 0 (foldAtS s b)).data.toList ++ [10])) (s.extract (foldAtS s b) s.size) 0 := by
  obtain ⟨f, hf, e⟩ := h
  obtain ⟨f, rfl⟩ : ∃ g, f = g + 1 := ⟨f - 1, by omega⟩
  refine ⟨f, by simp; omega, ?_⟩
  rw [e]
  conv => lhs; unfold foldL
  rw [if_neg (by omega), if_pos hi]
  simp
theorem FoldRest.hard {l : List UInt8} {s0 : ByteArray} {b0 : Nat} {l' : List UInt8} {s : ByteArray} {b : Nat} (h : FoldRest l s0 b0 l' s b) (h78 : 78 < s.size) (hi : ¬ 0 < foldAtS s b) (h998 : ¬ s.size ≤ 998) :
    FoldRest l s0 b0 (l' ++ ((s.extract 0 998).data.toList ++ [10])) (⟨#[32]⟩ ++ s.extract 998 s.size) 0 := by
  obtain ⟨f, hf, e⟩ := h
  obtain ⟨f, rfl⟩ : ∃ g, f = g + 1 := ⟨f - 1, by omega⟩
  refine ⟨f, ?_, ?_⟩
  · rw [ByteArray.size_append]
    have : (⟨#[32]⟩ : ByteArray).size = 1 := rfl
    simp
    omega
  rw [e]
  conv => lhs; unfold foldL
  rw [if_neg (by omega), if_neg hi, if_neg h998]
  simp
theorem FoldRest.stop {l : List UInt8} {s0 : ByteArray} {b0 : Nat} {l' : List UInt8} {s : ByteArray} {b : Nat} (h : FoldRest l s0 b0 l' s b) (hs : s.size ≤ 78 ∨ (¬ 0 < foldAtS s b ∧ s.size ≤ 998)) :
    l ++ foldL s0.size s0 b0 = l' ++ (s.data.toList ++ [10]) := by
  obtain ⟨f, hf, e⟩ := h
  rw [e]
  cases f with
  | zero => rfl
  | succ f =>
    unfold foldL
    rcases hs with h | ⟨h1, h2⟩
    · rw [if_pos h]
    · by_cases h3 : s.size ≤ 78
      · rw [if_pos h3]
      · rw [if_neg h3, if_neg h1, if_pos h2]
set_option maxHeartbeats 2000000 in
set_option maxRecDepth 100000 in
theorem fold_calls (B bb : Nat) (l : List UInt8) (s : ByteArray) (bound : Nat) (w : World) (h : Bld B bb l w) (hb : bound ≤ 1000) (hlen : l.length + 2 * s.size + 2 ≤ 1099511627776) (hB : B ≤ w.heap.size) :
    Calls Tryz.prog 56 #[.pointer (some ⟨bb, 0, none⟩), .string s, .int .i64 bound] w fun e w' => e = .returned (.tuple #[]) ∧ Bld B bb (l ++ foldL s.size s bound) w' ∧ BKept B bb w w' := by
  obtain ⟨W, hW⟩ : ∃ W, W = w.alloc (Obj.cells #[.pointer (some ⟨bb, 0, none⟩)] 64) := ⟨_, rfl⟩
  have hbel : Below w.heap.size w W := by rw [hW]; exact (Below.refl _ _).alloc (Nat.le_refl _) _
  have hx : W.heap[w.heap.size]? = some (.cells #[.pointer (some ⟨bb, 0, none⟩)] 64 (0, 0)) := by rw [hW]; exact heap_alloc_new w _
  have hsz : W.heap.size = w.heap.size + 1 := by rw [hW, World.size_alloc]
  have hlt : bb < w.heap.size := by
    rcases h with ⟨_, v, h2, _⟩ | ⟨_, v, h2, _⟩ <;> exact (Array.getElem?_eq_some_iff.1 h2).1
  have h0 : Bld B bb l W := h.keep hbel
  have hk0 : BKept B bb w W := (BKept.refl B bb w).made hbel hB
  have HW := Aside0.mk hW
  clear hW h hbel
  go_enter Tryz.func56, Tryz.ntmps56
  go_wp2_with fail
  go_step3
  go_wp2_with fail
  go_step3
  go_wp2_with fail
  rw [← HW.out]
  have hne : w.heap.size ≠ bb := by omega
  go_loopw [1, 2] (fun v b wr => ∃ (l' : List UInt8) (s1 : ByteArray) (b1 : Nat), v = .string s1 ∧ b = .int .i64 b1 ∧ b1 ≤ 1000 ∧ l'.length + 2 * s1.size + 2 ≤ 1099511627776 ∧ Aside0 (FoldRest l s bound l' s1 b1) ∧ Aside0 (Bld B bb l' wr) ∧ Aside0 (BKept B bb w wr) ∧ Aside0 (wr.heap[w.heap.size]? = some (.cells #[.pointer (some ⟨bb, 0, none⟩)] 64 (0, 0)))) (fun v _ _ => match v with | .string x => x.size | _ => 0)
  case atStart => exact ⟨l, s, bound, rfl, rfl, hb, hlen, ⟨s.size, Nat.le_refl _, rfl⟩, ⟨h0⟩, ⟨hk0⟩, ⟨hx⟩⟩
  case round =>
    clear h0 hk0 hx hsz
    obtain ⟨l', s1, b1, rfl, rfl, hb1, hl1, hf, hbl, hkp, hxx⟩ := hrel
    by_cases h78 : 78 < s1.size
    · obtain ⟨i, hi⟩ : ∃ i, i = foldAtS s1 b1 := ⟨_, rfl⟩
      have hile : i ≤ s1.size := by rw [hi]; exact foldAtS_le s1 b1
      have hcall := foldAt_calls s1 b1 wr (by omega) h78 hb1
      rw [← hi] at hcall
      have HC := Aside0.mk hcall
      have hsw : ∀ w1, Below wr.heap.size wr w1 → Aside0 (Bld B bb l' w1) ∧ Aside0 (BKept B bb w w1) ∧ Aside0 (w1.heap[w.heap.size]? = some (.cells #[.pointer (some ⟨bb, 0, none⟩)] 64 (0, 0))) ∧ Aside0 (B ≤ w1.heap.size) := fun w1 hb2 =>
        ⟨⟨hbl.out.keep hb2⟩, ⟨hkp.out.made hb2 (by have := hkp.out.below.size; omega)⟩, ⟨(hb2.block _ (Array.getElem?_eq_some_iff.1 hxx.out).1).trans hxx.out⟩, ⟨by have := hkp.out.below.size; have := hb2.size; omega⟩⟩
      have HSW := Aside0.mk hsw
      have HI := Lib.hid hi
      clear hcall hsw hbl hkp hxx hi
      by_cases h0 : 0 < i
      · go_wp2_with fail
        refine (HC.out).mono ?_
        rintro e w1 ⟨rfl, hb2⟩
        obtain ⟨hbl, hkp, hxx, hB1⟩ := HSW.out w1 hb2
        clear hb2 HSW HC
        go_wp2_with fail
        refine (end_calls B bb w.heap.size l' (s1.extract 0 i) w1 hbl.out (by simp; omega) hB1.out hxx.out hne).mono ?_
        rintro e w2 ⟨rfl, h2, k2⟩
        have H2 := Aside0.mk h2
        have K2 := Aside0.mk k2
        clear h2 k2
        go_wp2_with fail
        go_roundw
        case rel => exact ⟨l' ++ ((s1.extract 0 i).data.toList ++ [10]), s1.extract i s1.size, 0, rfl, rfl, by omega, by simp; omega, ⟨by have := hf.out.cut h78 (by rw [← HI.out]; exact h0); rw [← HI.out] at this; exact this⟩, H2, ⟨hkp.out.trans K2.out⟩, ⟨K2.out.box hxx.out hne⟩⟩
        case measure => simp; omega
      · by_cases h998 : s1.size ≤ 998
        · go_wp2_with fail
          refine (HC.out).mono ?_
          rintro e w1 ⟨rfl, hb2⟩
          obtain ⟨hbl, hkp, hxx, hB1⟩ := HSW.out w1 hb2
          clear hb2 HSW HC
          go_wp2_with fail
          refine (end_calls B bb w.heap.size l' s1 w1 hbl.out (by omega) hB1.out hxx.out hne).mono ?_
          rintro e w2 ⟨rfl, h2, k2⟩
          have H2 := Aside0.mk h2
          have K2 := Aside0.mk k2
          clear h2 k2
          go_wp2_with fail
          rw [Exit.noGoto_normal]
          go_end0
          have hs := hf.out.stop (.inr ⟨by rw [← HI.out]; exact h0, h998⟩)
          exact ⟨rfl, by rw [hs]; exact H2.out, hkp.out.trans K2.out⟩
        · go_wp2_with fail
          refine (HC.out).mono ?_
          rintro e w1 ⟨rfl, hb2⟩
          obtain ⟨hbl, hkp, hxx, hB1⟩ := HSW.out w1 hb2
          clear hb2 HSW HC
          go_wp2_with fail
          refine (end_calls B bb w.heap.size l' (s1.extract 0 998) w1 hbl.out (by simp; omega) hB1.out hxx.out hne).mono ?_
          rintro e w2 ⟨rfl, h2, k2⟩
          have H2 := Aside0.mk h2
          have K2 := Aside0.mk k2
          clear h2 k2
          go_wp2_with fail
          go_roundw
          case rel => exact ⟨l' ++ ((s1.extract 0 998).data.toList ++ [10]), ⟨#[32]⟩ ++ s1.extract 998 s1.size, 0, rfl, rfl, by omega, by rw [ByteArray.size_append, show (⟨#[32]⟩ : ByteArray).size = 1 from rfl]; simp; omega, ⟨hf.out.hard h78 (by rw [← HI.out]; exact h0) h998⟩, H2, ⟨hkp.out.trans K2.out⟩, ⟨K2.out.box hxx.out hne⟩⟩
          case measure => simp [show (⟨#[32]⟩ : ByteArray).size = 1 from rfl]; omega
    · go_wp2_with fail
      refine (end_calls B bb w.heap.size l' s1 wr hbl.out (by omega) (by have := hkp.out.below.size; omega) hxx.out hne).mono ?_
      rintro e w2 ⟨rfl, h2, k2⟩
      have H2 := Aside0.mk h2
      have K2 := Aside0.mk k2
      clear h2 k2
      go_wp2_with fail
      rw [Exit.noGoto_normal]
      go_end0
      have hs := hf.out.stop (.inl (by omega))
      exact ⟨rfl, by rw [hs]; exact H2.out, hkp.out.trans K2.out⟩
end Go.Proofs.YtieompfmhnpnaaaGreat.H
end
section
namespace Go.Proofs.YtieompfmhnpnaaaGreat.H
open Go.RowKit Go.Proofs.YtieompfmhnpnaaaGreatW.PrintWords Go.Proofs.YtieompfmhnpnaaaGreatW.PrintLast Go.Proofs.YtieompfmhnpnaaaGreatW.PrintMore
set_option linter.unusedVariables false
set_option linter.unusedSimpArgs false
def crlfS (s : ByteArray) : ByteArray := tabS s (tab2 13 32 10 32)
def lineS (f : S35) : ByteArray :=
  if (trimS (crlfS f.f1)).size = 0 then f.f0 ++ ⟨#[58]⟩ else (f.f0 ++ ⟨#[58]⟩) ++ (⟨#[32]⟩ ++ trimS (crlfS f.f1))
def fieldL (f : S35) : List UInt8 := if isNameB f.f0 then foldL (lineS f).size (lineS f) (f.f0.size + 1) else []
def writeL (l : List S35) : List UInt8 := l.flatMap fieldL
def wsum (l : List S35) : Nat := (l.map fun f => 4 * (f.f0.size + f.f1.size) + 16).sum
theorem foldL_length : ∀ (f : Nat) (s : ByteArray) (b : Nat), (foldL f s b).length ≤ 2 * s.size + 1
  | 0, s, b => by unfold foldL; simp; omega
  | f + 1, s, b => by
    unfold foldL
    split
    · simp; omega
    · split
      · have := foldL_length f (s.extract (foldAtS s b) s.size) 0
        have := foldAtS_le s b
        simp at *
        omega
      · split
        · simp; omega
        · have := foldL_length f (⟨#[32]⟩ ++ s.extract 998 s.size) 0
          rw [ByteArray.size_append, show (⟨#[32]⟩ : ByteArray).size = 1 from rfl] at this
          simp at *
          omega
theorem tabS_size (s : ByteArray) (t : List Int) : (tabS s t).size = s.size := by
  unfold tabS
  rw [strOfNums_size]
  simp
theorem lineS_size (f : S35) : (lineS f).size ≤ f.f0.size + f.f1.size + 2 := by
  have h := trim_size (crlfS f.f1)
  have h2 := tabS_size f.f1 (tab2 13 32 10 32)
  unfold crlfS at h
  unfold lineS crlfS
  have z1 : (⟨#[58]⟩ : ByteArray).size = 1 := rfl
  have z2 : (⟨#[32]⟩ : ByteArray).size = 1 := rfl
  split
  · rw [ByteArray.size_append, z1]; omega
  · rw [ByteArray.size_append, ByteArray.size_append, ByteArray.size_append, z1, z2]; omega
theorem fieldL_length (f : S35) : (fieldL f).length ≤ 4 * (f.f0.size + f.f1.size) + 16 := by
  unfold fieldL
  split
  · have := foldL_length (lineS f).size (lineS f) (f.f0.size + 1)
    have := lineS_size f
    omega
  · simp
theorem keep_far {W w w' : World} {b : Nat} (h : Below W.heap.size w w') (hb : b < W.heap.size) {j : Nat} : w'.cell? ⟨b, j, none⟩ = w.cell? ⟨b, j, none⟩ := h.cell (p := ⟨b, j, none⟩) hb
theorem new_replacer_at (x0 x1 x2 x3 : ByteArray) (W : World) (b : Nat) (hb : b = W.heap.size) :
    Calls Tryz.prog 52 #[.slice (some ⟨b, 0, none⟩) 4 4] (W.alloc (.cells #[.string x0, .string x1, .string x2, .string x3] 9)) fun e w' => ∃ g, e = .returned (.pointer (some ⟨g, 0, none⟩)) ∧ NewRep W.heap.size w' g 0 x0 x1 x2 x3 ∧ Below W.heap.size W w' := by
  subst hb
  refine (new_replacer W.heap.size x0 x1 x2 x3 _ (by simp) (by simp) (by simp) (by simp)).mono ?_
  rintro e w' ⟨g, rfl, hr, hb⟩
  rw [World.size_alloc] at hr hb
  refine ⟨g, rfl, ?_, ((Below.refl _ _).alloc (Nat.le_refl _) _).trans (hb.mono (by omega))⟩
  obtain ⟨h1, h2, h3, h4, h5, h, cap, h6, h7⟩ := hr
  exact ⟨by omega, h2, h3, h4, h5, h, cap, by omega, h7⟩
theorem le_sum : ∀ {l : List Nat} {x : Nat}, x ∈ l → x ≤ l.sum
  | y :: l, x, h => by
    rw [List.sum_cons]
    rcases List.mem_cons.1 h with rfl | h
    · omega
    · have := le_sum h
      omega
theorem wsum_cons (x : S35) (l : List S35) : wsum (x :: l) = 4 * (x.f0.size + x.f1.size) + 16 + wsum l := by simp [wsum]
theorem wsum_len (l : List S35) : 16 * l.length ≤ wsum l := by
  induction l with
  | nil => simp
  | cons x l ih => rw [wsum_cons, List.length_cons]; omega
theorem wsum_at (l : List S35) (k : Nat) (h : k < l.length) : 4 * ((rd_T35 l (k : Int)).f0.size + (rd_T35 l (k : Int)).f1.size) + 16 ≤ wsum l := by
  have e : rd_T35 l (k : Int) = l[k] := by simp [rd_T35, List.getD, h]
  rw [e]
  unfold wsum
  have : 4 * (l[k].f0.size + l[k].f1.size) + 16 ∈ l.map (fun f => 4 * (f.f0.size + f.f1.size) + 16) := List.mem_map.2 ⟨l[k], List.getElem_mem h, rfl⟩
  exact le_sum this
theorem writeL_take (l : List S35) (k : Nat) (h : k < l.length) : writeL (l.take (k + 1)) = writeL (l.take k) ++ fieldL (rd_T35 l (k : Int)) := by
  have e : rd_T35 l (k : Int) = l[k] := by simp [rd_T35, List.getD, h]
  rw [e, List.take_succ_eq_append_getElem h]
  unfold writeL
  rw [List.flatMap_append]
  simp only [List.flatMap_cons, List.flatMap_nil, List.append_nil]
theorem writeL_length (l : List S35) : (writeL l).length ≤ wsum l := by
  induction l with
  | nil => simp [writeL, wsum]
  | cons x l ih =>
    have := fieldL_length x
    rw [wsum_cons]
    unfold writeL at *
    rw [List.flatMap_cons, List.length_append]
    omega
theorem wsum_take (l : List S35) (k : Nat) : wsum (l.take k) ≤ wsum l := by
  unfold wsum
  have : l = l.take k ++ l.drop k := (List.take_append_drop k l).symm
  conv => rhs; rw [this]
  rw [List.map_append, List.sum_append]
  omega
set_option maxHeartbeats 4000000 in
set_option maxRecDepth 100000 in
theorem write_calls (A0 : Option Addr) (c0 : Nat) (l0 : List S35) (w : World) (hr0 : Kd.C k35 w A0 l0.length l0) (hc0 : l0.length ≤ c0) (hs : wsum l0 ≤ 137438953472) :
    Calls Tryz.prog 21 #[.slice A0 l0.length c0] w fun e w' => e = .returned (.string (mkB (writeL l0))) ∧ Below w.heap.size w w' := by
  have hu35 := Tryz.underlying35
  have HR0 := Aside0.mk hr0
  clear hr0
  go_enter Tryz.func21, Tryz.ntmps21
  go_wp2_with fail
  obtain ⟨W, hW⟩ : ∃ W, W = w.alloc (Obj.cells #[Value.pointer none, Value.slice none 0 0] 66) := ⟨_, rfl⟩
  have hb0 : Bld w.heap.size w.heap.size [] W := by
    rw [hW]
    rcases Lib.fresh_isBuilder 66 5 w with h | h
    · exact .inl (Lib.BuilderAtF.of h)
    · exact .inr (Lib.BuilderAtF.of h)
  have hB0 : Below w.heap.size w W := by rw [hW]; exact (Below.refl _ _).alloc (Nat.le_refl _) _
  rw [← hW]
  clear hW
  go_loopw [10] (fun v wr => ∃ k : Nat, k ≤ l0.length ∧ v = .int .i64 k ∧ Aside0 (Bld w.heap.size w.heap.size (writeL (l0.take k)) wr) ∧ Aside0 (Below w.heap.size w wr)) (fun v _ => l0.length - (intOf v).toNat)
  case atStart => exact ⟨0, Nat.zero_le _, rfl, ⟨hb0⟩, ⟨hB0⟩⟩
  case round =>
    clear hb0 hB0
    obtain ⟨k, hk, rfl, hbl, hbel⟩ := hrel
    by_cases hlt : k < l0.length
    · obtain ⟨ad, rfl, hx0, hx1⟩ := at_T35 HR0.out (k : Int) (by omega) (by omega)
      obtain ⟨x, hx⟩ : ∃ x, x = rd_T35 l0 (k : Int) := ⟨_, rfl⟩
      rw [← hx] at hx0 hx1
      replace hx0 := (hbel.out.cell (World.block_lt_of_cell? w _ hx0)).trans hx0
      replace hx1 := (hbel.out.cell (World.block_lt_of_cell? w _ hx1)).trans hx1
      simp only [Int.toNat_natCast] at hx0 hx1
      have hsum := wsum_at l0 k hlt
      rw [← hx] at hsum
      have hlen := wsum_len l0
      have hout := Nat.le_trans (writeL_length (l0.take k)) (wsum_take l0 k)
      have hnext := writeL_take l0 k hlt
      rw [← hx] at hnext
      have HX := Lib.hid hx
      have HN := Lib.hid hnext
      clear hx hnext
      obtain ⟨kn, hkn⟩ := (isName_ev x.f0 (by omega)).rounds
      have HKN := Aside0.mk hkn
      clear hkn
      have hBsz := hbel.out.size
      obtain ⟨fb, hfb⟩ : ∃ fb, fb = wr.heap.size := ⟨_, rfl⟩
      obtain ⟨w1, hw1⟩ : ∃ w1, w1 = wr.alloc (.cells #[.string x.f0, .string x.f1] 35) := ⟨_, rfl⟩
      have hb1 : Below wr.heap.size wr w1 := by rw [hw1]; exact (Below.refl _ _).alloc (Nat.le_refl _) _
      have hc0' : w1.cell? ⟨fb, 0, none⟩ = some (.string x.f0) := by rw [hw1, hfb]; simp
      have hc1' : w1.cell? ⟨fb, 1, none⟩ = some (.string x.f1) := by rw [hw1, hfb]; simp
      have hlt1 : fb < w1.heap.size := by rw [hw1, hfb, World.size_alloc]; omega
      have HB1 := Aside0.mk hb1
      have HW1 := Aside0.mk hw1
      have HFB := Aside0.mk hfb
      clear hb1 hw1 hfb
      by_cases hnm : isNameB x.f0 = true
      · rw [hnm] at HKN
        have HNM := Lib.hid hnm
        clear hnm
        have hf1 : x.f1.size ≤ 1099511627776 := by omega
        obtain ⟨kt, hkt⟩ := (trim_ev (tabS x.f1 (tab2 13 32 10 32)) (by rw [tabS_size]; omega)).rounds
        have HT := Aside0.mk hkt
        clear hkt
        go_wp2_with fail
        rw [← HW1.out, ← HFB.out]
        refine (header_isName.calls kn _ _ _ HKN.out).mono ?_
        rintro e w2 ⟨rfl, ⟨n, rfl⟩⟩
        go_wp2_with fail
        go_region_held3 (fun w' => w'.cell? ⟨fb, 1, none⟩ = some (.string x.f1)) (first | go_keep | (exact pw_cell_below (by assumption) (by assumption)) | (exact (keep_far (by assumption) hlt1).trans (by assumption)))
          (first
            | (go_at_call 52; refine (new_replacer_at _ _ _ _ _ _ rfl).mono ?_; rintro e w3 ⟨g3, rfl, hg3, hb3⟩)
            | (go_at_call 53; refine (replace_bytes _ g3 13 32 10 32 _ _ hf1 hb3.size hg3).mono ?_; rintro e w4 ⟨rfl, hb4⟩)
            | (go_at_call 24; refine (text_Trim.calls kt _ _ _ HT.out).mono ?_; rintro e w5 ⟨rfl, ⟨n5, rfl⟩⟩))
        have hb4' : Below w1.heap.size w1 w4 := (pw_below_drewN (Below.refl _ _) _).trans (hb3.trans hb4)
        have hc04 := (keep_far hb4' hlt1 (j := 0)).trans hc0'
        have HB4 := Aside0.mk hb4'
        clear hb3 hb4 hb4' hg3
        obtain ⟨v, hv⟩ : ∃ v, v = trimS (tabS x.f1 (tab2 13 32 10 32)) := ⟨_, rfl⟩
        rw [← hv]
        have hvs : v.size ≤ x.f1.size := by rw [hv]; have := trim_size (tabS x.f1 (tab2 13 32 10 32)); rw [tabS_size] at this; exact this
        have HV := Lib.hid hv
        clear hv
        obtain ⟨line, hline⟩ : ∃ line, line = lineS x := ⟨_, rfl⟩
        have hlsz : line.size ≤ x.f0.size + x.f1.size + 2 := by rw [hline]; exact lineS_size x
        have HLINE := Lib.hid hline
        clear hline
        have hbld : Bld w.heap.size w.heap.size (writeL (l0.take k)) (w4.drewN n5) := ((hbl.out.keep HB1.out).keep HB4.out).keep (pw_below_drewN (Below.refl _ _) n5)
        have HBLD := Aside0.mk hbld
        clear hbld
        have hnsz : x.f0.size ≤ 200 := by
          have := HNM.out
          unfold isNameB at this
          simp at this
          exact this.1.2
        have hszz := HB1.out.size
        by_cases hz : v.size = 0
        · have hve : v.toList.isEmpty = true := by rw [toList_bl, List.isEmpty_iff_length_eq_zero, bl_length]; exact hz
          have hln : line = x.f0 ++ ⟨#[58]⟩ := by rw [HLINE.out]; unfold lineS crlfS; rw [← HV.out, if_pos hz]
          go_wp2_with fail
          rw [show ((x.f0.size : Int) + 1) = ((x.f0.size + 1 : Nat) : Int) from by omega, ← hln]
          refine (fold_calls w.heap.size w.heap.size (writeL (l0.take k)) line (x.f0.size + 1) _ HBLD.out (by omega) (by omega) (by have := HB4.out.size; show w.heap.size ≤ w4.heap.size; omega)).mono ?_
          rintro e w6 ⟨rfl, h6, k6⟩
          have H6 := Aside0.mk h6
          have K6 := Aside0.mk k6
          clear h6 k6
          go_wp2_with fail
          go_roundw
          case rel =>
            refine ⟨k + 1, by omega, by go_num, ⟨?_⟩, ⟨?_⟩⟩
            · rw [HN.out]
              have : fieldL x = foldL line.size line (x.f0.size + 1) := by unfold fieldL; rw [HNM.out, HLINE.out]; rfl
              rw [this]
              exact H6.out
            · exact (pw_below_drewN (hbel.out.trans ((HB1.out.mono hBsz).trans (HB4.out.mono (by omega)))) n5).trans K6.out.below
          case measure => simp [intOf]; omega
        · have hve : v.toList.isEmpty = false := by
            rw [toList_bl]
            cases h : bl v with
            | nil => exfalso; apply hz; rw [← bl_length, h]; rfl
            | cons _ _ => rfl
          have hln : line = (x.f0 ++ ⟨#[58]⟩) ++ (⟨#[32]⟩ ++ v) := by rw [HLINE.out]; unfold lineS crlfS; rw [← HV.out, if_neg hz]
          go_wp2_with fail
          rw [show ((x.f0.size : Int) + 1) = ((x.f0.size + 1 : Nat) : Int) from by omega, ← hln]
          refine (fold_calls w.heap.size w.heap.size (writeL (l0.take k)) line (x.f0.size + 1) _ HBLD.out (by omega) (by omega) (by have := HB4.out.size; show w.heap.size ≤ w4.heap.size; omega)).mono ?_
          rintro e w6 ⟨rfl, h6, k6⟩
          have H6 := Aside0.mk h6
          have K6 := Aside0.mk k6
          clear h6 k6
          go_wp2_with fail
          go_roundw
          case rel =>
            refine ⟨k + 1, by omega, by go_num, ⟨?_⟩, ⟨?_⟩⟩
            · rw [HN.out]
              have : fieldL x = foldL line.size line (x.f0.size + 1) := by unfold fieldL; rw [HNM.out, HLINE.out]; rfl
              rw [this]
              exact H6.out
            · exact (pw_below_drewN (hbel.out.trans ((HB1.out.mono hBsz).trans (HB4.out.mono (by omega)))) n5).trans K6.out.below
          case measure => simp [intOf]; omega
      · have hnm' : isNameB x.f0 = false := by simpa using hnm
        rw [hnm'] at HKN
        have HNM := Lib.hid hnm'
        clear hnm hnm'
        go_wp2_with fail
        rw [← HW1.out, ← HFB.out]
        refine (header_isName.calls kn _ _ _ HKN.out).mono ?_
        rintro e w2 ⟨rfl, ⟨n, rfl⟩⟩
        go_wp2_with fail
        go_roundw
        case rel =>
          refine ⟨k + 1, by omega, by go_num, ⟨?_⟩, ⟨?_⟩⟩
          · rw [HN.out]
            have : fieldL x = [] := by unfold fieldL; rw [HNM.out]; rfl
            rw [this, List.append_nil]
            exact (hbl.out.keep HB1.out).keep (pw_below_drewN (Below.refl _ _) n)
          · exact pw_below_drewN (hbel.out.trans (HB1.out.mono hBsz)) n
        case measure => simp [intOf]; omega
    · have hkk : k = l0.length := by omega
      subst hkk
      go_wp2_with fail
      refine (Tryz.Builder_String_any_k w.heap.size w.heap.size (writeL (l0.take l0.length)) wr hbl.out hbel.out.size).mono ?_
      rintro e w6 ⟨rfl, -, hb6, -⟩
      go_wp2_with fail
      go_ret
      exact ⟨rfl, hbel.out.trans hb6⟩
def header_Write.f (l0 : List S35) : Option ByteArray := if wsum l0 ≤ 137438953472 then some (mkB (writeL l0)) else none
theorem header_Write.calls (A0 : Option Addr) (c0 : Nat) (l0 : List S35) (r : ByteArray) (w : World) (hr0 : Kd.C k35 w A0 l0.length l0) (hc0 : l0.length ≤ c0) (h : header_Write.f l0 = some r) :
    Calls Tryz.prog 21 #[.slice A0 l0.length c0] w fun e w' => e = .returned (.string r) ∧ Below w.heap.size w w' := by
  unfold header_Write.f at h
  by_cases hs : wsum l0 ≤ 137438953472
  · rw [if_pos hs] at h
    obtain rfl := Option.some.inj h
    exact write_calls A0 c0 l0 w hr0 hc0 hs
  · rw [if_neg hs] at h
    cases h
end Go.Proofs.YtieompfmhnpnaaaGreat.H
end
section
namespace Go.Proofs.YtieompfmhnpnaaaGreat.H
open Go.RowKit Go.Proofs.YtieompfmhnpnaaaGreatW.PrintWords Go.Proofs.YtieompfmhnpnaaaGreatW.PrintLast Go.Proofs.YtieompfmhnpnaaaGreatW.PrintMore
set_option linter.unusedVariables false
set_option linter.unusedSimpArgs false
theorem indexByte_cut {l r : List UInt8} {c : UInt8} (h : c ∉ l) : Lib.indexByte (l ++ c :: r) c = l.length := by
  induction l with
  | nil => simp [Lib.indexByte]
  | cons b l ih =>
    have hb : (b == c) = false := by
      rw [beq_eq_false_iff_ne]
      exact fun e => h (by rw [e]; exact List.mem_cons_self)
    have ih := ih (fun hm => h (List.mem_cons_of_mem _ hm))
    rw [List.cons_append, Lib.indexByte, hb, ih]
    have h1 : (((l.length : Nat) : Int) == -1) = false := by
      rw [beq_eq_false_iff_ne]; omega
    rw [h1]
    simp
theorem cutAt_cut {s : ByteArray} {l r : List UInt8} {c : UInt8} (hs : bl s = l ++ c :: r) (h : c ∉ l) : cutAt s c = (mkB l, mkB r, true) := by
  have hi : Lib.indexByte s.data.toList c = l.length := by
    have : s.data.toList = l ++ c :: r := hs
    rw [this]
    exact indexByte_cut h
  have hl : s.size = l.length + 1 + r.length := by rw [← bl_length, hs]; simp; omega
  unfold cutAt
  rw [hi]
  simp only [Int.toNat_natCast]
  rw [if_pos (by omega)]
  have e1 : s.extract 0 l.length = mkB l := bl_inj (by rw [bl_extract, hs, bl_mkB]; simp)
  have e2 : s.extract (l.length + 1) s.size = mkB r := bl_inj (by
    rw [bl_extract (s := s)]
    rw [hs, List.take_of_length_le (by simp; omega), List.drop_append]
    simp)
  rw [e1, e2]
def catL (ls : List (List UInt8)) : List UInt8 := ls.flatMap fun l => l ++ [10]
def lineXs : Nat → List (List UInt8) → List LineX
  | _, [] => []
  | off, l :: ls => ⟨trimCR (mkB l), off, off + l.length + 1⟩ :: lineXs (off + l.length + 1) ls
theorem catL_length (ls : List (List UInt8)) : ls.length ≤ (catL ls).length := by
  induction ls with
  | nil => simp
  | cons l ls ih =>
    have hc : catL (l :: ls) = l ++ 10 :: catL ls := by simp [catL]
    rw [hc]
    simp
    omega
theorem trimCR_no {l : List UInt8} (h : (13 : UInt8) ∉ l) : trimCR (mkB l) = mkB l := by
  unfold trimCR
  rw [if_neg]
  rintro ⟨h1, h2⟩
  rw [toList_bl, bl_extract, bl_mkB] at h2
  apply h
  have : (13 : UInt8) ∈ (l.take (mkB l).size).drop ((mkB l).size - 1) := by rw [h2]; simp
  exact List.mem_of_mem_take (List.mem_of_mem_drop this)
end Go.Proofs.YtieompfmhnpnaaaGreat.H
namespace Go.Proofs.YtieompfmhnpnaaaGreat.H
open Go.RowKit Go.Proofs.YtieompfmhnpnaaaGreatW.PrintWords Go.Proofs.YtieompfmhnpnaaaGreatW.PrintLast Go.Proofs.YtieompfmhnpnaaaGreatW.PrintMore
set_option linter.unusedVariables false
set_option linter.unusedSimpArgs false
structure FieldLs (name : ByteArray) (ls : List (List UInt8)) (parts : List (List UInt8)) : Prop where
  first : ∃ v0 conts, ls = (bl name ++ 58 :: v0) :: conts ∧ parts = v0 :: conts ∧ ∀ c ∈ conts, ∃ r, c = 32 :: r
  noLF : ∀ l ∈ ls, (10 : UInt8) ∉ l
  noCR : ∀ l ∈ ls, (13 : UInt8) ∉ l
def partsV (parts : List (List UInt8)) : List ByteArray := parts.foldl (fun vs p => addV vs (mkB p)) []
def endOf (off : Nat) (ls : List (List UInt8)) : Nat := off + (catL ls).length
theorem conts_go : ∀ (conts : List (List UInt8)) (off : Nat) (st : PS), 0 < st.fs.length → (∀ c ∈ conts, ∃ r, c = 32 :: r) → (∀ l ∈ conts, (13 : UInt8) ∉ l) →
    goP st (lineXs off conts) = some ⟨st.fs, conts.foldl (fun vs p => addV vs (mkB p)) st.vs, if conts = [] then st.en else endOf off conts⟩
  | [], off, st, _, _, _ => rfl
  | c :: conts, off, st, hf, hb, hcr => by
    obtain ⟨r, hr⟩ := hb c List.mem_cons_self
    have ht := trimCR_no (hcr c List.mem_cons_self)
    have hstep : stepP st ⟨trimCR (mkB c), off, off + c.length + 1⟩ = (⟨st.fs, addV st.vs (mkB c), off + c.length + 1⟩, true) := by
      unfold stepP
      simp only [ht]
      have hne : ¬ (mkB c).size = 0 := by rw [mkB_size, hr]; simp
      have hb0 : byteAt (mkB c) 0 = 32 := by rw [hr]; rfl
      rw [if_neg hne, if_pos ⟨by rw [hb0]; rfl, hf⟩]
    rw [lineXs, goP, hstep, if_pos rfl]
    have ih := conts_go conts (off + c.length + 1) ⟨st.fs, addV st.vs (mkB c), off + c.length + 1⟩ hf (fun x hx => hb x (List.mem_cons_of_mem _ hx)) (fun x hx => hcr x (List.mem_cons_of_mem _ hx))
    rw [ih]
    congr 2
    have hc : catL (c :: conts) = c ++ 10 :: catL conts := by simp [catL]
    by_cases h : conts = []
    · subst h
      simp [endOf, hc, catL]
      omega
    · simp only [if_neg h, if_neg (show ¬ (c :: conts = []) by simp)]
      unfold endOf
      rw [hc]
      simp
      omega
theorem field_go {name : ByteArray} {ls parts : List (List UInt8)} (h : FieldLs name ls parts) (hn : isNameB name = true) (off : Nat) (st : PS) (hl : st.fs.length < 400) :
    goP st (lineXs off ls) = some ⟨doneF st.fs st.vs ++ [⟨name, ⟨#[]⟩⟩], partsV parts, endOf off ls⟩ := by
  obtain ⟨⟨v0, conts, rfl, rfl, hb⟩, _, hcr⟩ := h
  have ht := trimCR_no (hcr _ List.mem_cons_self)
  have hvis : ∀ c ∈ bl name, visB c = true ∧ c ≠ 58 := by
    unfold isNameB at hn
    simp only [Bool.and_eq_true, List.all_eq_true] at hn
    intro c hc
    have := hn.2 c hc
    simp at this
    exact ⟨this.1, this.2⟩
  have hsz : 1 ≤ name.size := by
    unfold isNameB at hn
    simp at hn
    exact hn.1.1
  have hcut : cutAt (mkB (bl name ++ 58 :: v0)) 58 = (name, mkB v0, true) := by
    have := cutAt_cut (s := mkB (bl name ++ 58 :: v0)) (bl_mkB _) (fun hm => (hvis 58 hm).2 rfl)
    rw [this, mkB_bl]
  obtain ⟨c0, cs, hc0⟩ : ∃ c0 cs, bl name = c0 :: cs := by
    cases hbn : bl name with
    | nil => rw [← bl_length, hbn] at hsz; simp at hsz
    | cons c0 cs => exact ⟨c0, cs, rfl⟩
  have hv0 := (hvis c0 (by rw [hc0]; exact List.mem_cons_self)).1
  have hnb : blankB c0 = false := by
    unfold visB at hv0
    unfold blankB
    simp at hv0
    have n1 : (c0 == 32) = false := by
      rw [beq_eq_false_iff_ne]
      intro e
      rw [e] at hv0
      exact absurd hv0.1 (by decide)
    have n2 : (c0 == 9) = false := by
      rw [beq_eq_false_iff_ne]
      intro e
      rw [e] at hv0
      exact absurd hv0.1 (by decide)
    rw [n1, n2]
    rfl
  have hb0 : byteAt (mkB (bl name ++ 58 :: v0)) 0 = c0 := by
    rw [hc0]
    rfl
  have hstep : stepP st ⟨trimCR (mkB (bl name ++ 58 :: v0)), off, off + (bl name ++ 58 :: v0).length + 1⟩ = (⟨doneF st.fs st.vs ++ [⟨name, ⟨#[]⟩⟩], addV [] (mkB v0), off + (bl name ++ 58 :: v0).length + 1⟩, true) := by
    unfold stepP
    simp only [ht]
    have hne : ¬ (mkB (bl name ++ 58 :: v0)).size = 0 := by rw [mkB_size]; simp
    rw [if_neg hne, if_neg (by rw [hb0, hnb]; rintro ⟨h, _⟩; cases h), hcut]
    simp only
    rw [if_neg (by
      rintro (h | h | h)
      · cases h
      · rw [hn] at h; cases h
      · omega)]
  rw [lineXs, goP, hstep, if_pos rfl]
  rw [conts_go conts _ _ (by simp) hb (fun x hx => hcr x (List.mem_cons_of_mem _ hx))]
  congr 2
  have hc : catL ((bl name ++ 58 :: v0) :: conts) = (bl name ++ 58 :: v0) ++ 10 :: catL conts := by simp [catL]
  by_cases h : conts = []
  · subst h
    simp [endOf, catL]
    omega
  · simp only [if_neg h]
    unfold endOf
    rw [hc]
    simp
    omega
end Go.Proofs.YtieompfmhnpnaaaGreat.H
namespace Go.Proofs.YtieompfmhnpnaaaGreat.H
open Go.RowKit Go.Proofs.YtieompfmhnpnaaaGreatW.PrintWords Go.Proofs.YtieompfmhnpnaaaGreatW.PrintLast Go.Proofs.YtieompfmhnpnaaaGreatW.PrintMore
set_option linter.unusedVariables false
set_option linter.unusedSimpArgs false
theorem downTo_spec (p : Nat → Bool) (lo : Nat) : ∀ n, downTo p lo n ≠ 0 → lo < downTo p lo n ∧ p (downTo p lo n) = true
  | 0, h => absurd rfl h
  | n + 1, h => by
    unfold downTo at h ⊢
    by_cases h1 : n + 1 ≤ lo
    · rw [if_pos h1] at h
      exact absurd rfl h
    · rw [if_neg h1] at h ⊢
      by_cases h2 : p (n + 1) = true
      · rw [if_pos h2]
        exact ⟨by omega, h2⟩
      · rw [if_neg h2] at h ⊢
        exact downTo_spec p lo n h
theorem upTo_spec (p : Nat → Bool) : ∀ f i, upTo p i f ≠ 0 → i ≤ upTo p i f ∧ upTo p i f < i + f ∧ p (upTo p i f) = true
  | 0, i, h => absurd rfl h
  | f + 1, i, h => by
    unfold upTo at h ⊢
    by_cases h2 : p i = true
    · rw [if_pos h2]
      exact ⟨Nat.le_refl _, by omega, h2⟩
    · rw [if_neg h2] at h ⊢
      have := upTo_spec p f (i + 1) h
      exact ⟨by omega, by omega, this.2.2⟩
theorem foldAt_spec (s : ByteArray) (b : Nat) (h : 0 < foldAtS s b) : b < foldAtS s b ∧ foldAtS s b ≤ 998 ∧ foldAtS s b + 2 ≤ s.size ∧ isFoldB s (foldAtS s b) = true := by
  unfold foldAtS at h ⊢
  simp only at h ⊢
  by_cases hd : downTo (isFoldB s) b (min 78 (min 998 (s.size - 2))) = 0
  · rw [if_pos hd] at h ⊢
    have := upTo_spec (isFoldB s) _ _ (show upTo (isFoldB s) (max 78 b + 1) (min 998 (s.size - 2) - max 78 b) ≠ 0 by omega)
    exact ⟨by omega, by omega, by omega, this.2.2⟩
  · rw [if_neg hd] at h ⊢
    have h1 := downTo_spec (isFoldB s) b _ hd
    have h2 := downTo_le (isFoldB s) b (min 78 (min 998 (s.size - 2)))
    exact ⟨h1.1, by omega, by omega, h1.2⟩
def foldLs : Nat → ByteArray → Nat → List (List UInt8)
  | 0, s, _ => [bl s]
  | f + 1, s, bound =>
    if s.size ≤ 78 then [bl s]
    else if 0 < foldAtS s bound then bl (s.extract 0 (foldAtS s bound)) :: foldLs f (s.extract (foldAtS s bound) s.size) 0
    else if s.size ≤ 998 then [bl s]
    else bl (s.extract 0 998) :: foldLs f (⟨#[32]⟩ ++ s.extract 998 s.size) 0
theorem foldL_cat : ∀ (f : Nat) (s : ByteArray) (b : Nat), foldL f s b = catL (foldLs f s b)
  | 0, s, b => by simp [foldL, foldLs, catL]
  | f + 1, s, b => by
    unfold foldL foldLs
    split
    · simp [catL]
    · split
      · rw [foldL_cat f]
        rfl
      · split
        · simp [catL]
        · rw [foldL_cat f]
          rfl
theorem foldLs_spec : ∀ (f : Nat) (s : ByteArray) (b : Nat), ∃ j conts, foldLs f s b = (bl s).take j :: conts ∧ (b ≤ 998 → b ≤ j ∨ s.size ≤ j) ∧ (0 < s.size → 0 < j) ∧ (∀ c ∈ conts, ∃ r, c = 32 :: r) ∧
      ∀ x : UInt8, x ≠ 32 → x ∉ bl s → ∀ l ∈ foldLs f s b, x ∉ l
  | 0, s, b => by
    refine ⟨s.size, [], ?_, fun _ => .inr (Nat.le_refl _), fun h => h, (fun c hc => by cases hc), fun x _ hx l hl => ?_⟩
    · rw [← bl_length, List.take_length]; rfl
    · obtain rfl : l = bl s := by simpa [foldLs] using hl
      exact hx
  | f + 1, s, b => by
    unfold foldLs
    have whole : ∃ j conts, [bl s] = (bl s).take j :: conts ∧ (b ≤ 998 → b ≤ j ∨ s.size ≤ j) ∧ (0 < s.size → 0 < j) ∧ (∀ c ∈ conts, ∃ r, c = (32 : UInt8) :: r) ∧ ∀ x : UInt8, x ≠ 32 → x ∉ bl s → ∀ l ∈ [bl s], x ∉ l := by
      refine ⟨s.size, [], ?_, fun _ => .inr (Nat.le_refl _), fun h => h, (fun c hc => by cases hc), fun x _ hx l hl => ?_⟩
      · rw [← bl_length, List.take_length]
      · obtain rfl : l = bl s := by simpa using hl
        exact hx
    split
    · exact whole
    · rename_i h78
      split
      · rename_i hf
        obtain ⟨h1, h2, h3, h4⟩ := foldAt_spec s b hf
        obtain ⟨j, conts, e1, e2, e3, e4, e5⟩ := foldLs_spec f (s.extract (foldAtS s b) s.size) 0
        have hb : bl (s.extract (foldAtS s b) s.size) = 32 :: (bl s).drop (foldAtS s b + 1) := by
          rw [bl_extract, List.take_of_length_le (by rw [bl_length]; exact Nat.le_refl _), drop_byteAt s _ (by omega)]
          have : byteAt s (foldAtS s b) = 32 := by
            unfold isFoldB at h4
            simp at h4
            exact h4.1.1
          rw [this]
        refine ⟨foldAtS s b, foldLs f (s.extract (foldAtS s b) s.size) 0, ?_, fun _ => .inl (by omega), fun _ => by omega, ?_, ?_⟩
        · rw [bl_extract]
          simp
        · intro c hc
          rw [e1] at hc
          rcases List.mem_cons.1 hc with rfl | hc
          · have hj := e3 (by rw [← bl_length, hb]; simp)
            obtain ⟨j, rfl⟩ : ∃ m, j = m + 1 := ⟨j - 1, by omega⟩
            rw [hb]
            exact ⟨_, rfl⟩
          · exact e4 c hc
        · intro x hx32 hx l hl
          rcases List.mem_cons.1 hl with rfl | hl
          · rw [bl_extract]
            exact fun hm => hx (List.mem_of_mem_take (List.mem_of_mem_drop hm))
          · refine e5 x hx32 ?_ l hl
            rw [bl_extract]
            exact fun hm => hx (List.mem_of_mem_take (List.mem_of_mem_drop hm))
      · split
        · exact whole
        · rename_i h998
          obtain ⟨j, conts, e1, e2, e3, e4, e5⟩ := foldLs_spec f (⟨#[32]⟩ ++ s.extract 998 s.size) 0
          have hb : bl ((⟨#[32]⟩ : ByteArray) ++ s.extract 998 s.size) = 32 :: bl (s.extract 998 s.size) := by rw [bl_append]; rfl
          refine ⟨998, foldLs f (⟨#[32]⟩ ++ s.extract 998 s.size) 0, ?_, fun h => .inl h, fun _ => by omega, ?_, ?_⟩
          · rw [bl_extract]
            simp
          · intro c hc
            rw [e1] at hc
            rcases List.mem_cons.1 hc with rfl | hc
            · have hj := e3 (by rw [← bl_length, hb]; simp)
              obtain ⟨j, rfl⟩ : ∃ m, j = m + 1 := ⟨j - 1, by omega⟩
              rw [hb]
              exact ⟨_, rfl⟩
            · exact e4 c hc
          · intro x hx32 hx l hl
            rcases List.mem_cons.1 hl with rfl | hl
            · rw [bl_extract]
              exact fun hm => hx (List.mem_of_mem_take (List.mem_of_mem_drop hm))
            · refine e5 x hx32 ?_ l hl
              rw [hb]
              intro hm
              rcases List.mem_cons.1 hm with e | hm
              · exact hx32 e
              · rw [bl_extract] at hm
                exact hx (List.mem_of_mem_take (List.mem_of_mem_drop hm))
end Go.Proofs.YtieompfmhnpnaaaGreat.H
namespace Go.Proofs.YtieompfmhnpnaaaGreat.H
open Go.RowKit Go.Proofs.YtieompfmhnpnaaaGreatW.PrintWords Go.Proofs.YtieompfmhnpnaaaGreatW.PrintLast Go.Proofs.YtieompfmhnpnaaaGreatW.PrintMore
set_option linter.unusedVariables false
set_option linter.unusedSimpArgs false
def crlfB (c : UInt8) : UInt8 := if c = 13 ∨ c = 10 then 32 else c
theorem tab_at256 : ∀ n : Fin 256, (tab2 13 32 10 32).getD n.val 0 = ((crlfB (UInt8.ofNat n.val)).toNat : Int) := by decide +kernel
theorem tab_at (c : UInt8) : tv (tab2 13 32 10 32) c = ((crlfB c).toNat : Int) := by
  have := tab_at256 ⟨c.toNat, c.toNat_lt⟩
  unfold tv
  rw [this]
  simp
theorem bl_crlf (s : ByteArray) : bl (crlfS s) = (bl s).map crlfB := by
  unfold crlfS tabS
  have e : s.data.toList.map (tv (tab2 13 32 10 32)) = byteInts ((bl s).map crlfB) := by
    unfold byteInts
    rw [List.map_map]
    exact List.map_congr_left (fun c _ => tab_at c)
  rw [e, byteInts_back]
theorem crlfB_no (c x : UInt8) (hx : x = 13 ∨ x = 10) : crlfB c ≠ x := by
  unfold crlfB
  split
  · rcases hx with rfl | rfl <;> decide
  · rename_i h
    rcases hx with rfl | rfl
    · exact fun e => h (.inl e)
    · exact fun e => h (.inr e)
theorem crlf_no (s : ByteArray) (x : UInt8) (hx : x = 13 ∨ x = 10) : x ∉ bl (crlfS s) := by
  rw [bl_crlf]
  intro hm
  obtain ⟨c, _, hc⟩ := List.mem_map.1 hm
  exact crlfB_no c x hx hc
theorem trim_mem {s : ByteArray} {x : UInt8} (h : x ∈ bl (trimS s)) : x ∈ bl s := by
  unfold trimS at h
  rw [bl_mkB] at h
  unfold trimL rtrim at h
  have h1 := List.mem_reverse.1 h
  have h2 := (List.dropWhile_suffix _).subset h1
  have h3 := List.mem_reverse.1 h2
  exact (List.dropWhile_suffix _).subset h3
theorem name_vis {name : ByteArray} (hn : isNameB name = true) : ∀ c ∈ bl name, visB c = true ∧ c ≠ 58 := by
  unfold isNameB at hn
  simp only [Bool.and_eq_true, List.all_eq_true] at hn
  intro c hc
  have := hn.2 c hc
  simp at this
  exact ⟨this.1, this.2⟩
theorem vis_no {c x : UInt8} (hv : visB c = true) (hx : x = 13 ∨ x = 10 ∨ x = 32) : c ≠ x := by
  intro e
  subst e
  unfold visB at hv
  rcases hx with rfl | rfl | rfl <;> exact absurd hv (by decide)
theorem line_no {f : S35} (hn : isNameB f.f0 = true) (x : UInt8) (hx : x = 13 ∨ x = 10) : x ∉ bl (lineS f) := by
  have h0 : x ∉ bl f.f0 := fun hm => vis_no ((name_vis hn x hm).1) (by rcases hx with h | h; exact .inl h; exact .inr (.inl h)) rfl
  have h58 : x ∉ bl (⟨#[58]⟩ : ByteArray) := by rcases hx with rfl | rfl <;> decide
  have h32 : x ∉ bl (⟨#[32]⟩ : ByteArray) := by rcases hx with rfl | rfl <;> decide
  have ht : x ∉ bl (trimS (crlfS f.f1)) := fun hm => crlf_no f.f1 x hx (trim_mem hm)
  unfold lineS
  split
  · rw [bl_append]
    simp only [List.mem_append]
    rintro (h | h)
    · exact h0 h
    · exact h58 h
  · rw [bl_append, bl_append, bl_append]
    simp only [List.mem_append]
    rintro ((h | h) | (h | h))
    · exact h0 h
    · exact h58 h
    · exact h32 h
    · exact ht h
theorem line_head (f : S35) : ∃ w, bl (lineS f) = bl f.f0 ++ 58 :: w := by
  unfold lineS
  split
  · exact ⟨[], by rw [bl_append]⟩
  · refine ⟨bl ((⟨#[32]⟩ : ByteArray) ++ trimS (crlfS f.f1)), ?_⟩
    rw [bl_append, bl_append]
    simp [bl]
def fieldLs (f : S35) : List (List UInt8) := foldLs (lineS f).size (lineS f) (f.f0.size + 1)
def fieldPs (f : S35) : List (List UInt8) :=
  match fieldLs f with
  | [] => []
  | l :: conts => l.drop (f.f0.size + 1) :: conts
theorem fieldL_cat (f : S35) (h : isNameB f.f0 = true) : fieldL f = catL (fieldLs f) := by
  unfold fieldL fieldLs
  rw [if_pos h, foldL_cat]
theorem fieldLs_ok (f : S35) (h : isNameB f.f0 = true) : FieldLs f.f0 (fieldLs f) (fieldPs f) := by
  obtain ⟨w, hw⟩ := line_head f
  have hsz : f.f0.size ≤ 200 := by
    unfold isNameB at h
    simp at h
    exact h.1.2
  obtain ⟨j, conts, e1, e2, e3, e4, e5⟩ := foldLs_spec (lineS f).size (lineS f) (f.f0.size + 1)
  have hlen : (lineS f).size = f.f0.size + 1 + w.length := by rw [← bl_length, hw]; simp; omega
  have hj : f.f0.size + 1 ≤ j := by
    rcases e2 (by omega) with h | h <;> omega
  have hfirst : (bl (lineS f)).take j = bl f.f0 ++ 58 :: w.take (j - (f.f0.size + 1)) := by
    rw [hw, List.take_append, bl_length]
    have e : j - f.f0.size = (j - (f.f0.size + 1)) + 1 := by omega
    rw [e, List.take_succ_cons, List.take_of_length_le (by rw [bl_length]; omega)]
  refine ⟨⟨w.take (j - (f.f0.size + 1)), conts, ?_, ?_, e4⟩, ?_, ?_⟩
  · unfold fieldLs
    rw [e1, hfirst]
  · unfold fieldPs fieldLs
    rw [e1, hfirst]
    simp only
    congr 1
    have : bl f.f0 ++ 58 :: w.take (j - (f.f0.size + 1)) = (bl f.f0 ++ [58]) ++ w.take (j - (f.f0.size + 1)) := by simp
    rw [this]
    have hl : f.f0.size + 1 = (bl f.f0 ++ [58]).length := by simp
    rw [hl, List.drop_left]
  · exact e5 10 (by decide) (line_no h 10 (.inr rfl))
  · exact e5 13 (by decide) (line_no h 13 (.inl rfl))
def writtenF (l : List S35) : List (ByteArray × List (List UInt8) × List (List UInt8)) := (l.filter fun f => isNameB f.f0).map fun f => (f.f0, fieldLs f, fieldPs f)
theorem writeL_cat (l : List S35) : writeL l = catL ((writtenF l).flatMap (·.2.1)) := by
  induction l with
  | nil => rfl
  | cons f l ih =>
    have e1 : writeL (f :: l) = fieldL f ++ writeL l := rfl
    rw [e1, ih]
    unfold writtenF
    by_cases h : isNameB f.f0 = true
    · rw [List.filter_cons_of_pos (p := fun f : S35 => isNameB f.f0) h, fieldL_cat f h]
      simp [catL]
    · rw [List.filter_cons_of_neg (p := fun f : S35 => isNameB f.f0) h]
      have : fieldL f = [] := by unfold fieldL; rw [if_neg h]
      rw [this]
      rfl
end Go.Proofs.YtieompfmhnpnaaaGreat.H
end
section
namespace Go.Proofs.YtieompfmhnpnaaaGreat.H
open Go.RowKit Go.Proofs.YtieompfmhnpnaaaGreatW.PrintWords Go.Proofs.YtieompfmhnpnaaaGreatW.PrintLast Go.Proofs.YtieompfmhnpnaaaGreatW.PrintMore
attribute [local go_sem] max2_int min2_int max_two min_two max_three min_three max_four min_four
set_option linter.unusedVariables false
set_option linter.unusedSimpArgs false
def missiveref09_Fold.f (a0 : ByteArray) (a1 : Int) : Option (Bool) := if a1 ≥ 1 then (if (wrap64 (a1 + 1)) < (a0.size : Int) then (if 0 ≤ a1 then (if a1 < (a0.size : Int) then (if (bt a0 a1) = 32 then (if 0 ≤ (wrap64 (a1 - 1)) then (if (wrap64 (a1 - 1)) < (a0.size : Int) then ((missiveref09_white.f (bt a0 (wrap64 (a1 - 1)))).bind fun t215 => (if t215 = true then (some false) else (if 0 ≤ (wrap64 (a1 + 1)) then ((missiveref09_white.f (bt a0 (wrap64 (a1 + 1)))).bind fun t216 => (some (!t216))) else (none)))) else (none)) else (none)) else (some false)) else (none)) else (none)) else (some false)) else (some false)
set_option maxHeartbeats 8000000 in
set_option maxRecDepth 100000 in
theorem missiveref09_Fold.calls (a0 : ByteArray) (a1 : Int) (r : Bool) (w : World) (h : missiveref09_Fold.f a0 a1 = some r) :
    Calls Tryz.prog 26 #[.string a0, .int .i64 a1] w fun e w' => e = .returned (.bool r) ∧ Drawn0 w w' := by
  have H : (if a1 ≥ 1 then (if (wrap64 (a1 + 1)) < (a0.size : Int) then (if 0 ≤ a1 then (if a1 < (a0.size : Int) then (if (bt a0 a1) = 32 then (if 0 ≤ (wrap64 (a1 - 1)) then (if (wrap64 (a1 - 1)) < (a0.size : Int) then ((missiveref09_white.f (bt a0 (wrap64 (a1 - 1)))).bind fun t215 => (if t215 = true then (some false) else (if 0 ≤ (wrap64 (a1 + 1)) then ((missiveref09_white.f (bt a0 (wrap64 (a1 + 1)))).bind fun t216 => (some (!t216))) else (none)))) else (none)) else (none)) else (some false)) else (none)) else (none)) else (some false)) else (some false)) = some r := h
  clear h
  by_cases c3 : a1 ≥ 1
  · rw [if_pos c3] at H
    have c3b0 : decide (1 ≤ a1) = true := decide_eq_true c3
    clear c3
    by_cases c4 : (wrap64 (a1 + 1)) < (a0.size : Int)
    · rw [if_pos c4] at H
      have c4b0 : decide ((wrap64 (a1 + 1)) < (a0.size : Int)) = true := decide_eq_true c4
      clear c4
      by_cases c5 : 0 ≤ a1
      · rw [if_pos c5] at H
        have c5b0 : decide (0 ≤ a1) = true := decide_eq_true c5
        clear c5
        by_cases c6 : a1 < (a0.size : Int)
        · rw [if_pos c6] at H
          have c6b0 : decide (a1 < (a0.size : Int)) = true := decide_eq_true c6
          clear c6
          by_cases c8 : (bt a0 a1) = 32
          · rw [if_pos c8] at H
            have c8b0 : ((bt a0 a1) == 32) = true := beq_iff_eq.mpr c8
            have c8b1 : ((bt a0 a1) != 32) = false := bne_eq_false_iff_eq.mpr c8
            clear c8
            obtain ⟨ji9, hji9⟩ : ∃ j_ : Int, (wrap64 (a1 - 1)) = j_ := ⟨_, rfl⟩
            replace H : (if 0 ≤ (ji9) then (if (ji9) < (a0.size : Int) then ((missiveref09_white.f (bt a0 (ji9))).bind fun t215 => (if t215 = true then (some false) else (if 0 ≤ (wrap64 (a1 + 1)) then ((missiveref09_white.f (bt a0 (wrap64 (a1 + 1)))).bind fun t216 => (some (!t216))) else (none)))) else (none)) else (none)) = some r := by first | (rw [hji9] at H; exact H) | (simp only [hji9] at H ⊢; exact H)
            have hji9w : (IntKind.i64.wrap (a1 - 1)) = ji9 := (i64_w _).trans hji9
            by_cases c10 : 0 ≤ (ji9)
            · rw [if_pos c10] at H
              have c10b0 : decide (0 ≤ (ji9)) = true := decide_eq_true c10
              clear c10
              by_cases c11 : (ji9) < (a0.size : Int)
              · rw [if_pos c11] at H
                have c11b0 : decide ((ji9) < (a0.size : Int)) = true := decide_eq_true c11
                clear c11
                replace H := Option.bind_eq_some_iff.mp H
                obtain ⟨t215, A130, H⟩ := H
                replace H : (if t215 = true then (some false) else (if 0 ≤ (wrap64 (a1 + 1)) then ((missiveref09_white.f (bt a0 (wrap64 (a1 + 1)))).bind fun t216 => (some (!t216))) else (none))) = some r := H
                have A13 := Aside0.mk A130
                clear A130
                by_cases c14 : t215 = true
                · subst c14
                  have H1 : (some false) = some r := by rw [if_pos rfl] at H; exact H
                  clear H
                  have H := H1
                  clear H1
                  obtain rfl := Option.some.inj H
                  have p7 : 0 ≤ (a1 : Int) := of_decide_eq_true (by first | (with_reducible assumption) | assumption)
                  have q7 : a1 < (a0.size : Int) := of_decide_eq_true (by first | (with_reducible assumption) | assumption)
                  have hx7 := bt_at a0 a1
                  replace p7 := eq_true p7
                  replace q7 := eq_true q7
                  have p12 : 0 ≤ ((ji9) : Int) := of_decide_eq_true (by first | (with_reducible assumption) | assumption)
                  have q12 : (ji9) < (a0.size : Int) := of_decide_eq_true (by first | (with_reducible assumption) | assumption)
                  have hx12 := bt_at a0 (ji9)
                  replace p12 := eq_true p12
                  replace q12 := eq_true q12
                  go_enter Tryz.func26, Tryz.ntmps26
                  go_wp2_with (first | (go_at_call 64; (with_reducible refine (missiveref09_white.calls (bt a0 (ji9)) true _ A13.out).mono ?_); rintro e w' ⟨rfl, ⟨nd, rfl⟩⟩))
                  go_ret
                  exact ⟨by first | rfl | (simp; done) | (simp only [← hji9] <;> (first | rfl | simp)) | (simp [*]; done), by repeat (first | exact Drawn0.refl _ | apply Drawn0.step)⟩
                · replace c14 := Bool.eq_false_iff.mpr c14
                  subst c14
                  have H1 : (if 0 ≤ (wrap64 (a1 + 1)) then ((missiveref09_white.f (bt a0 (wrap64 (a1 + 1)))).bind fun t216 => (some (!t216))) else (none)) = some r := by rw [if_neg (show ¬ (false = true) by decide)] at H; exact H
                  clear H
                  have H := H1
                  clear H1
                  obtain ⟨ji15, hji15⟩ : ∃ j_ : Int, (wrap64 (a1 + 1)) = j_ := ⟨_, rfl⟩
                  replace H : (if 0 ≤ (ji15) then ((missiveref09_white.f (bt a0 (ji15))).bind fun t216 => (some (!t216))) else (none)) = some r := by first | (rw [hji15] at H; exact H) | (simp only [hji15] at H ⊢; exact H)
                  (try rw [hji15] at c4b0)
                  (try rw [hji15] at A13)
                  have hji15w : (IntKind.i64.wrap (a1 + 1)) = ji15 := (i64_w _).trans hji15
                  by_cases c16 : 0 ≤ (ji15)
                  · rw [if_pos c16] at H
                    have c16b0 : decide (0 ≤ (ji15)) = true := decide_eq_true c16
                    clear c16
                    replace H := Option.bind_eq_some_iff.mp H
                    obtain ⟨t216, A180, H⟩ := H
                    replace H : (some (!t216)) = some r := H
                    have A18 := Aside0.mk A180
                    clear A180
                    obtain rfl := Option.some.inj H
                    have p7 : 0 ≤ (a1 : Int) := of_decide_eq_true (by first | (with_reducible assumption) | assumption)
                    have q7 : a1 < (a0.size : Int) := of_decide_eq_true (by first | (with_reducible assumption) | assumption)
                    have hx7 := bt_at a0 a1
                    replace p7 := eq_true p7
                    replace q7 := eq_true q7
                    have p12 : 0 ≤ ((ji9) : Int) := of_decide_eq_true (by first | (with_reducible assumption) | assumption)
                    have q12 : (ji9) < (a0.size : Int) := of_decide_eq_true (by first | (with_reducible assumption) | assumption)
                    have hx12 := bt_at a0 (ji9)
                    replace p12 := eq_true p12
                    replace q12 := eq_true q12
                    go_enter Tryz.func26, Tryz.ntmps26
                    go_wp2_with (first | (go_at_call 64; (with_reducible refine (missiveref09_white.calls (bt a0 (ji9)) false _ A13.out).mono ?_); rintro e w' ⟨rfl, ⟨nd, rfl⟩⟩; have p17 : 0 ≤ ((ji15) : Int) := of_decide_eq_true (by first | (with_reducible assumption) | assumption); have q17 : (ji15) < (a0.size : Int) := of_decide_eq_true (by first | (with_reducible assumption) | assumption); have hx17 := bt_at a0 (ji15); replace p17 := eq_true p17; replace q17 := eq_true q17) | (go_at_call 64; (with_reducible refine (missiveref09_white.calls (bt a0 (ji15)) t216 _ A18.out).mono ?_); rintro e w' ⟨rfl, ⟨nd, rfl⟩⟩))
                    go_ret
                    exact ⟨by first | rfl | (simp; done) | (simp only [← hji9, ← hji15] <;> (first | rfl | simp)) | (simp [*]; done), by repeat (first | exact Drawn0.refl _ | apply Drawn0.step)⟩
                  · rw [if_neg c16] at H
                    exact absurd H (by simp)
              · rw [if_neg c11] at H
                exact absurd H (by simp)
            · rw [if_neg c10] at H
              exact absurd H (by simp)
          · rw [if_neg c8] at H
            have c8b0 : ((bt a0 a1) == 32) = false := beq_eq_false_iff_ne.mpr c8
            have c8b1 : ((bt a0 a1) != 32) = true := bne_iff_ne.mpr c8
            obtain rfl := Option.some.inj H
            have p7 : 0 ≤ (a1 : Int) := of_decide_eq_true (by first | (with_reducible assumption) | assumption)
            have q7 : a1 < (a0.size : Int) := of_decide_eq_true (by first | (with_reducible assumption) | assumption)
            have hx7 := bt_at a0 a1
            replace p7 := eq_true p7
            replace q7 := eq_true q7
            go_enter Tryz.func26, Tryz.ntmps26
            go_wp2
            go_ret
            exact ⟨by first | rfl | (simp; done) | (simp [*]; done), by repeat (first | exact Drawn0.refl _ | apply Drawn0.step)⟩
        · rw [if_neg c6] at H
          exact absurd H (by simp)
      · rw [if_neg c5] at H
        exact absurd H (by simp)
    · rw [if_neg c4] at H
      have c4b0 : decide ((wrap64 (a1 + 1)) < (a0.size : Int)) = false := decide_eq_false c4
      clear c4
      obtain rfl := Option.some.inj H
      go_enter Tryz.func26, Tryz.ntmps26
      go_wp2
      go_ret
      exact ⟨by first | rfl | (simp; done) | (simp [*]; done), by repeat (first | exact Drawn0.refl _ | apply Drawn0.step)⟩
  · rw [if_neg c3] at H
    have c3b0 : decide (1 ≤ a1) = false := decide_eq_false c3
    clear c3
    obtain rfl := Option.some.inj H
    go_enter Tryz.func26, Tryz.ntmps26
    go_wp2
    go_ret
    exact ⟨by first | rfl | (simp; done) | (simp [*]; done), by repeat (first | exact Drawn0.refl _ | apply Drawn0.step)⟩
mutual
def missivelaw09_plain.l0 : Nat → ByteArray → Int → Int → Option (Bool)
  | 0, _, _, _ => none
  | k + 1, x0, x3, x4 => if x4 < (x0.size : Int) then (if 0 ≤ x4 then (if (bt x0 x4) = 13 then (missivelaw09_plain.j1 k x0 x3 x4 true) else (if (bt x0 x4) = 10 then (missivelaw09_plain.j1 k x0 x3 x4 true) else (missivelaw09_plain.j1 k x0 x3 x4 (decide ((wrap64 (x4 - x3)) ≥ 700))))) else (none)) else (some (decide ((wrap64 ((x0.size : Int) - x3)) < 700)))
def missivelaw09_plain.j1 : Nat → ByteArray → Int → Int → Bool → Option (Bool)
  | 0, _, _, _, _ => none
  | k + 1, x0, x3, x4, x30 => if x30 = true then (some false) else ((missiveref09_Fold.f x0 x4).bind fun t218 => (if t218 = true then (missivelaw09_plain.l0 k x0 x4 (wrap64 (x4 + 1))) else (missivelaw09_plain.l0 k x0 x3 (wrap64 (x4 + 1)))))
end
def missivelaw09_plain.f (k : Nat) (a0 : ByteArray) : Option (Bool) := (text_Trim.f k a0).bind fun t217 => (if t217.toList = a0.toList then (missivelaw09_plain.l0 k a0 0 0) else (some false))
theorem missivelaw09_plain.mono_l : ∀ k, (∀ y0 y1 y2, LeO (missivelaw09_plain.l0 k y0 y1 y2) (missivelaw09_plain.l0 (k + 1) y0 y1 y2)) ∧ (∀ y0 y1 y2 y3, LeO (missivelaw09_plain.j1 k y0 y1 y2 y3) (missivelaw09_plain.j1 (k + 1) y0 y1 y2 y3))
  | 0 => ⟨fun _ _ _ r h => by simp [missivelaw09_plain.l0] at h, fun _ _ _ _ r h => by simp [missivelaw09_plain.j1] at h⟩
  | k + 1 => by
    obtain ⟨ih0, ih1⟩ := missivelaw09_plain.mono_l k
    refine ⟨?_, ?_⟩
    · intro y0 y1 y2
      unfold missivelaw09_plain.l0
      repeat' first
      | (with_reducible exact ih0 _ _ _)
      | (with_reducible exact ih1 _ _ _ _)
      | (with_reducible exact text_Trim.mono _ _)
      | (with_reducible exact LeO.refl _)
      | (with_reducible exact LeO.none _)
      | (with_reducible refine LeO.ite ?_ ?_)
      | (with_reducible refine LeO.bind ?_ (fun _ => ?_))
      | exact ih0 _ _ _
      | exact ih1 _ _ _ _
      | exact text_Trim.mono _ _
      | exact LeO.none _
      | refine LeO.ite ?_ ?_
      | refine LeO.bind ?_ (fun _ => ?_)
    · intro y0 y1 y2 y3
      unfold missivelaw09_plain.j1
      repeat' first
      | (with_reducible exact ih0 _ _ _)
      | (with_reducible exact ih1 _ _ _ _)
      | (with_reducible exact text_Trim.mono _ _)
      | (with_reducible exact LeO.refl _)
      | (with_reducible exact LeO.none _)
      | (with_reducible refine LeO.ite ?_ ?_)
      | (with_reducible refine LeO.bind ?_ (fun _ => ?_))
      | exact ih0 _ _ _
      | exact ih1 _ _ _ _
      | exact text_Trim.mono _ _
      | exact LeO.none _
      | refine LeO.ite ?_ ?_
      | refine LeO.bind ?_ (fun _ => ?_)
theorem missivelaw09_plain.mono : ∀ a0 k, LeO (missivelaw09_plain.f k a0) (missivelaw09_plain.f (k + 1) a0) := by
  intro a0 k
  obtain ⟨ih0, ih1⟩ := missivelaw09_plain.mono_l k
  unfold missivelaw09_plain.f
  repeat' first
      | (with_reducible exact ih0 _ _ _)
      | (with_reducible exact ih1 _ _ _ _)
      | (with_reducible exact text_Trim.mono _ _)
      | (with_reducible exact LeO.refl _)
      | (with_reducible exact LeO.none _)
      | (with_reducible refine LeO.ite ?_ ?_)
      | (with_reducible refine LeO.bind ?_ (fun _ => ?_))
      | exact ih0 _ _ _
      | exact ih1 _ _ _ _
      | exact text_Trim.mono _ _
      | exact LeO.none _
      | refine LeO.ite ?_ ?_
      | refine LeO.bind ?_ (fun _ => ?_)
end Go.Proofs.YtieompfmhnpnaaaGreat.H
end
section
namespace Go.Proofs.YtieompfmhnpnaaaGreat.H
open Go.RowKit Go.Proofs.YtieompfmhnpnaaaGreatW.PrintWords Go.Proofs.YtieompfmhnpnaaaGreatW.PrintLast Go.Proofs.YtieompfmhnpnaaaGreatW.PrintMore
attribute [local go_sem] max2_int min2_int max_two min_two max_three min_three max_four min_four
set_option linter.unusedVariables false
set_option linter.unusedSimpArgs false
mutual
def missiveref09_place.l0 : Nat → ByteArray → Int → Int → Option (Int)
  | 0, _, _, _ => none
  | k + 1, x0, x1, x5 => if x5 > x1 then ((missiveref09_Fold.f x0 x5).bind fun t313 => (if t313 = true then (some x5) else (missiveref09_place.l0 k x0 x1 (wrap64 (x5 - 1))))) else (missiveref09_place.l1 k x0 (mx 79 (wrap64 (x1 + 1))))
def missiveref09_place.l1 : Nat → ByteArray → Int → Option (Int)
  | 0, _, _ => none
  | k + 1, x0, x6 => if x6 ≤ 998 then ((missiveref09_Fold.f x0 x6).bind fun t314 => (if t314 = true then (some x6) else (missiveref09_place.l1 k x0 (wrap64 (x6 + 1))))) else (some (-1))
end
def missiveref09_place.f (k : Nat) (a0 : ByteArray) (a1 : Int) : Option (Int) := missiveref09_place.l0 k a0 a1 78
theorem missiveref09_place.mono_l : ∀ k, (∀ y0 y1 y2, LeO (missiveref09_place.l0 k y0 y1 y2) (missiveref09_place.l0 (k + 1) y0 y1 y2)) ∧ (∀ y0 y1, LeO (missiveref09_place.l1 k y0 y1) (missiveref09_place.l1 (k + 1) y0 y1))
  | 0 => ⟨fun _ _ _ r h => by simp [missiveref09_place.l0] at h, fun _ _ r h => by simp [missiveref09_place.l1] at h⟩
  | k + 1 => by
    obtain ⟨ih0, ih1⟩ := missiveref09_place.mono_l k
    refine ⟨?_, ?_⟩
    · intro y0 y1 y2
      unfold missiveref09_place.l0
      repeat' first
      | (with_reducible exact ih0 _ _ _)
      | (with_reducible exact ih1 _ _)
      | (with_reducible exact LeO.refl _)
      | (with_reducible exact LeO.none _)
      | (with_reducible refine LeO.ite ?_ ?_)
      | (with_reducible refine LeO.bind ?_ (fun _ => ?_))
      | exact ih0 _ _ _
      | exact ih1 _ _
      | exact LeO.none _
      | refine LeO.ite ?_ ?_
      | refine LeO.bind ?_ (fun _ => ?_)
    · intro y0 y1
      unfold missiveref09_place.l1
      repeat' first
      | (with_reducible exact ih0 _ _ _)
      | (with_reducible exact ih1 _ _)
      | (with_reducible exact LeO.refl _)
      | (with_reducible exact LeO.none _)
      | (with_reducible refine LeO.ite ?_ ?_)
      | (with_reducible refine LeO.bind ?_ (fun _ => ?_))
      | exact ih0 _ _ _
      | exact ih1 _ _
      | exact LeO.none _
      | refine LeO.ite ?_ ?_
      | refine LeO.bind ?_ (fun _ => ?_)
theorem missiveref09_place.mono : ∀ a0 a1 k, LeO (missiveref09_place.f k a0 a1) (missiveref09_place.f (k + 1) a0 a1) := by
  intro a0 a1 k
  obtain ⟨ih0, ih1⟩ := missiveref09_place.mono_l k
  unfold missiveref09_place.f
  repeat' first
      | (with_reducible exact ih0 _ _ _)
      | (with_reducible exact ih1 _ _)
      | (with_reducible exact LeO.refl _)
      | (with_reducible exact LeO.none _)
      | (with_reducible refine LeO.ite ?_ ?_)
      | (with_reducible refine LeO.bind ?_ (fun _ => ?_))
      | exact ih0 _ _ _
      | exact ih1 _ _
      | exact LeO.none _
      | refine LeO.ite ?_ ?_
      | refine LeO.bind ?_ (fun _ => ?_)
end Go.Proofs.YtieompfmhnpnaaaGreat.H
end
section
namespace Go.Proofs.YtieompfmhnpnaaaGreat.H
open Go.RowKit Go.Proofs.YtieompfmhnpnaaaGreatW.PrintWords Go.Proofs.YtieompfmhnpnaaaGreatW.PrintLast Go.Proofs.YtieompfmhnpnaaaGreatW.PrintMore
set_option linter.unusedVariables false
set_option linter.unusedSimpArgs false
def foldB (s : ByteArray) (i : Nat) : Bool := decide (1 ≤ i) && decide (i + 1 < s.size) && isFoldB s i
theorem rwhite_at (c : UInt8) : missiveref09_white.f (c.toNat : Int) = some (blankB c) := blank_at c
theorem fold_eq (s : ByteArray) (i : Nat) (hs : s.size ≤ 1099511627776) (hi : i < s.size) : missiveref09_Fold.f s (i : Int) = some (foldB s i) := by
  unfold missiveref09_Fold.f
  by_cases h1 : 1 ≤ i
  · rw [if_pos (show (i : Int) ≥ 1 by omega), wrap_up i (by omega), wrap_down i (by omega) (by omega)]
    by_cases h2 : i + 1 < s.size
    · rw [if_pos (by omega), if_pos (by omega), if_pos (by omega), bt_byteAt s i hi, bt_byteAt s (i - 1) (by omega), bt_byteAt s (i + 1) (by omega), rwhite_at, rwhite_at]
      have e : foldB s i = isFoldB s i := by simp [foldB, h1, h2]
      rw [e]
      unfold isFoldB
      by_cases h3 : byteAt s i = 32
      · rw [if_pos (by rw [h3]; rfl), if_pos (by omega), if_pos (by omega), h3]
        simp only [Option.bind_some]
        by_cases h4 : blankB (byteAt s (i - 1)) = true
        · simp [h4]
        · have h4 : blankB (byteAt s (i - 1)) = false := by simpa using h4
          rw [h4, if_neg (by decide), if_pos (by omega)]
          simp
      · have h3' : ¬ ((byteAt s i).toNat : Int) = 32 := fun h => h3 (by
          have : (byteAt s i).toNat = 32 := by omega
          exact UInt8.toNat_inj.1 (by simpa using this))
        rw [if_neg h3']
        simp [h3]
    · rw [if_neg (by omega)]
      simp [foldB, h2]
  · rw [if_neg (show ¬ (i : Int) ≥ 1 by omega)]
    simp [foldB, h1]
theorem fold_out (s : ByteArray) (i : Nat) (hi : s.size ≤ i) (hb : i ≤ 1099511627776) (h1 : 1 ≤ i) : missiveref09_Fold.f s (i : Int) = some false := by
  unfold missiveref09_Fold.f
  rw [if_pos (show (i : Int) ≥ 1 by omega), wrap_up i (by omega), if_neg (by omega)]
theorem fold_any (s : ByteArray) (i : Nat) (hs : s.size ≤ 1099511627776) (hb : i ≤ 1099511627776) (h1 : 1 ≤ i) : missiveref09_Fold.f s (i : Int) = some (foldB s i) := by
  by_cases h : i < s.size
  · exact fold_eq s i hs h
  · rw [fold_out s i (by omega) hb h1]
    have : foldB s i = false := by unfold foldB; rw [show decide (i + 1 < s.size) = false by simp; omega]; simp
    rw [this]
end Go.Proofs.YtieompfmhnpnaaaGreat.H
end
section
namespace Go.Proofs.YtieompfmhnpnaaaGreat.H
open Go.RowKit Go.Proofs.YtieompfmhnpnaaaGreatW.PrintWords Go.Proofs.YtieompfmhnpnaaaGreatW.PrintLast Go.Proofs.YtieompfmhnpnaaaGreatW.PrintMore
set_option linter.unusedVariables false
set_option linter.unusedSimpArgs false
theorem downTo_le' (p : Nat → Bool) (lo : Nat) : ∀ n m, m ≤ n → (∀ i, m < i → i ≤ n → p i = false) → downTo p lo n = downTo p lo m
  | 0, m, h, _ => by rw [show m = 0 by omega]
  | n + 1, m, h, hp => by
    by_cases he : m = n + 1
    · rw [he]
    · by_cases hl : n + 1 ≤ lo
      · rw [downTo_low p lo _ hl, downTo_low p lo _ (by omega)]
      · rw [downTo_no p lo (n + 1) (by omega) (hp _ (by omega) (by omega))]
        exact downTo_le' p lo n m (by omega) (fun i h1 h2 => hp i h1 (by omega))
theorem downTo_congr (p q : Nat → Bool) (lo : Nat) : ∀ n, (∀ i, lo < i → i ≤ n → p i = q i) → downTo p lo n = downTo q lo n
  | 0, _ => rfl
  | n + 1, h => by
    unfold downTo
    split
    · rfl
    · rw [h (n + 1) (by omega) (Nat.le_refl _), downTo_congr p q lo n (fun i h1 h2 => h i h1 (by omega))]
theorem upTo_congr (p q : Nat → Bool) : ∀ f i, (∀ j, i ≤ j → j < i + f → p j = q j) → upTo p i f = upTo q i f
  | 0, _, _ => rfl
  | f + 1, i, h => by
    unfold upTo
    rw [h i (Nat.le_refl _) (by omega), upTo_congr p q f (i + 1) (fun j h1 h2 => h j (by omega) (by omega))]
theorem upTo_false (p : Nat → Bool) : ∀ f i, (∀ j, i ≤ j → j < i + f → p j = false) → upTo p i f = 0
  | 0, _, _ => rfl
  | f + 1, i, h => by
    unfold upTo
    rw [h i (Nat.le_refl _) (by omega), upTo_false p f (i + 1) (fun j h1 h2 => h j (by omega) (by omega))]
    rfl
theorem upTo_more (p : Nat → Bool) : ∀ g i f, (∀ j, i + g ≤ j → j < i + g + f → p j = false) → 0 < i → upTo p i (g + f) = upTo p i g
  | 0, i, f, h, _ => by
    rw [Nat.zero_add]
    show upTo p i f = 0
    exact upTo_false p f i (fun j h1 h2 => h j h1 h2)
  | g + 1, i, f, h, hi => by
    rw [show g + 1 + f = (g + f) + 1 by omega]
    unfold upTo
    rw [upTo_more p g (i + 1) f (fun j h1 h2 => h j (by omega) (by omega)) (by omega)]
theorem foldAt_foldB (s : ByteArray) (b : Nat) (h78 : 78 < s.size) : foldAtS s b = if downTo (foldB s) b 78 = 0 then upTo (foldB s) (max 78 b + 1) (998 - max 78 b) else downTo (foldB s) b 78 := by
  unfold foldAtS
  dsimp only
  have e1 : downTo (isFoldB s) b (min 78 (min 998 (s.size - 2))) = downTo (foldB s) b 78 := by
    rw [downTo_le' (foldB s) b 78 (min 78 (min 998 (s.size - 2))) (by omega) (fun i h1 h2 => by unfold foldB; rw [show decide (i + 1 < s.size) = false by simp; omega]; simp)]
    refine downTo_congr _ _ b _ (fun i h1 h2 => ?_)
    unfold foldB
    rw [show decide (1 ≤ i) = true by simp; omega, show decide (i + 1 < s.size) = true by simp; omega]
    rfl
  rw [e1]
  have e2 : upTo (isFoldB s) (max 78 b + 1) (min 998 (s.size - 2) - max 78 b) = upTo (foldB s) (max 78 b + 1) (998 - max 78 b) := by
    rw [show 998 - max 78 b = (min 998 (s.size - 2) - max 78 b) + ((998 - max 78 b) - (min 998 (s.size - 2) - max 78 b)) by omega]
    rw [upTo_more (foldB s) _ _ _ (fun j h1 h2 => by unfold foldB; rw [show decide (j + 1 < s.size) = false by simp; omega]; simp) (by omega)]
    refine upTo_congr _ _ _ _ (fun j h1 h2 => ?_)
    unfold foldB
    rw [show decide (1 ≤ j) = true by simp; omega, show decide (j + 1 < s.size) = true by simp; omega]
    rfl
  rw [e2]
end Go.Proofs.YtieompfmhnpnaaaGreat.H
end
section
namespace Go.Proofs.YtieompfmhnpnaaaGreat.H
open Go.RowKit Go.Proofs.YtieompfmhnpnaaaGreatW.PrintWords Go.Proofs.YtieompfmhnpnaaaGreatW.PrintLast Go.Proofs.YtieompfmhnpnaaaGreatW.PrintMore
set_option linter.unusedVariables false
set_option linter.unusedSimpArgs false
theorem printable_l0 (s : ByteArray) (hs : s.size ≤ 1099511627776) : ∀ (n i : Nat), i + n = s.size →
    Ev (fun k => missiveref09_Printable.l0 k s (i : Int)) (((bl s).drop i).all visB)
  | 0, i, hi => by
    have hl := bl_length s
    refine Ev.step (fun k => by simp only [missiveref09_Printable.l0]; rfl) ?_
    refine ev_no (by omega) ?_
    exact ev_done (by rw [List.drop_of_length_le (by omega)]; rfl)
  | n + 1, i, hi => by
    refine Ev.step (fun k => by simp only [missiveref09_Printable.l0]; rfl) ?_
    have hb := bt_byteAt s i (by omega)
    refine ev_yes (by omega) ?_
    refine ev_yes (by omega) ?_
    simp only [hb]
    rw [drop_byteAt s i (by omega), List.all_cons]
    by_cases h1 : (byteAt s i).toNat < 33
    · have hv : visB (byteAt s i) = false := by unfold visB; simp; omega
      rw [hv, Bool.false_and]
      exact ev_yes (by omega) (Ev.now _)
    · refine ev_no (by omega) ?_
      by_cases h2 : (byteAt s i).toNat > 126
      · have hv : visB (byteAt s i) = false := by unfold visB; simp; omega
        rw [hv, Bool.false_and]
        exact ev_yes (by omega) (Ev.now _)
      · have hv : visB (byteAt s i) = true := by unfold visB; simp; omega
        rw [hv, Bool.true_and]
        refine ev_no (by omega) ?_
        rw [wrap_up i (by omega)]
        exact printable_l0 s hs n (i + 1) (by omega)
theorem printable_ev (s : ByteArray) (hs : s.size ≤ 1099511627776) : Ev (fun k => missiveref09_Printable.f k s) ((bl s).all visB) := by
  unfold missiveref09_Printable.f
  have := printable_l0 s hs s.size 0 (by omega)
  simpa using this
theorem has_l1 (s l : ByteArray) (hs : s.size ≤ 1099511627776) (hl : l.size ≤ 1099511627776) (i : Nat) (hi : i < s.size) (r : Bool)
    (hrest : Ev (fun k => missiveref09_has.l0 k s l ((i + 1 : Nat) : Int)) r) : ∀ (n j : Nat), j + n = l.size →
    Ev (fun k => missiveref09_has.l1 k s l (i : Int) (j : Int)) (((bl l).drop j).contains (byteAt s i) || r)
  | 0, j, hj => by
    have hll := bl_length l
    refine Ev.step (fun k => by simp only [missiveref09_has.l1]; rfl) ?_
    refine ev_no (by omega) ?_
    rw [List.drop_of_length_le (by omega), wrap_up i (by omega)]
    simpa using hrest
  | n + 1, j, hj => by
    refine Ev.step (fun k => by simp only [missiveref09_has.l1]; rfl) ?_
    have hb := bt_byteAt s i hi
    have hb2 := bt_byteAt l j (by omega)
    refine ev_yes (by omega) ?_
    refine ev_yes (by omega) ?_
    refine ev_yes (by omega) ?_
    refine ev_yes (by omega) ?_
    simp only [hb, hb2]
    rw [drop_byteAt l j (by omega)]
    by_cases h : byteAt s i = byteAt l j
    · refine ev_yes (by rw [h]) ?_
      rw [h]
      simp
      exact Ev.now _
    · refine ev_no (fun e => h (by rw [← UInt8.toNat_inj]; omega)) ?_
      have e : (byteAt l j :: (bl l).drop (j + 1)).contains (byteAt s i) = ((bl l).drop (j + 1)).contains (byteAt s i) := by
        rw [List.contains_cons, beq_eq_false_iff_ne.2 h, Bool.false_or]
      rw [e, wrap_up j (by omega)]
      exact has_l1 s l hs hl i hi r hrest n (j + 1) (by omega)
theorem has_l0 (s l : ByteArray) (hs : s.size ≤ 1099511627776) (hl : l.size ≤ 1099511627776) : ∀ (n i : Nat), i + n = s.size →
    Ev (fun k => missiveref09_has.l0 k s l (i : Int)) (((bl s).drop i).any fun c => (bl l).contains c)
  | 0, i, hi => by
    have hll := bl_length s
    refine Ev.step (fun k => by simp only [missiveref09_has.l0]; rfl) ?_
    refine ev_no (by omega) ?_
    exact ev_done (by rw [List.drop_of_length_le (by omega)]; rfl)
  | n + 1, i, hi => by
    refine Ev.step (fun k => by simp only [missiveref09_has.l0]; rfl) ?_
    refine ev_yes (by omega) ?_
    rw [drop_byteAt s i (by omega), List.any_cons]
    have := has_l1 s l hs hl i (by omega) _ (has_l0 s l hs hl n (i + 1) (by omega)) l.size 0 (by omega)
    simpa using this
theorem has_ev (s l : ByteArray) (hs : s.size ≤ 1099511627776) (hl : l.size ≤ 1099511627776) : Ev (fun k => missiveref09_has.f k s l) ((bl s).any fun c => (bl l).contains c) := by
  unfold missiveref09_has.f
  have := has_l0 s l hs hl s.size 0 (by omega)
  simpa using this
theorem all_split (l : List UInt8) : (l.all fun c => visB c && c != 58) = (l.all visB && !(l.any fun c => [(58 : UInt8)].contains c)) := by
  induction l with
  | nil => rfl
  | cons c l ih =>
    rw [List.all_cons, List.all_cons, List.any_cons, ih]
    have e : [(58 : UInt8)].contains c = (c == 58) := by
      rw [List.contains_cons]
      simp
    rw [e]
    cases hv : visB c <;> cases h5 : (c == 58) <;> cases ha : l.all visB <;> simp [bne, h5]
theorem named_ev (s : ByteArray) (hs : s.size ≤ 1099511627776) : Ev (fun k => missiveref09_Named.f k s) (isNameB s) := by
  unfold missiveref09_Named.f isNameB
  simp only [toList_bl]
  by_cases h0 : bl s = []
  · have hz : s.size = 0 := by rw [← bl_length, h0]; rfl
    refine ev_yes h0 (ev_done ?_)
    have : decide (1 ≤ s.size) = false := by rw [hz]; rfl
    rw [this]
    rfl
  · refine ev_no h0 ?_
    have hz : 1 ≤ s.size := by
      rw [← bl_length]
      cases hb : bl s with
      | nil => exact absurd hb h0
      | cons _ _ => simp
    have d1 : decide (1 ≤ s.size) = true := by simpa using hz
    rw [d1, Bool.true_and]
    by_cases h2 : s.size ≤ 200
    · have d2 : decide (s.size ≤ 200) = true := by simpa using h2
      rw [d2, Bool.true_and, all_split]
      refine ev_yes (by omega) ?_
      refine Ev.bind (printable_ev s hs) ?_
      cases hp : (bl s).all visB with
      | false =>
        refine ev_no (by decide) (ev_done ?_)
        rfl
      | true =>
        refine ev_yes (by trivial) ?_
        refine Ev.bind (has_ev s _ hs (by decide)) ?_
        exact ev_done (by rw [Bool.true_and])
    · have d2 : decide (s.size ≤ 200) = false := by simpa using h2
      rw [d2, Bool.false_and]
      exact ev_no (by omega) (Ev.now _)
end Go.Proofs.YtieompfmhnpnaaaGreat.H
end
section
namespace Go.Proofs.YtieompfmhnpnaaaGreat.H
open Go.RowKit Go.Proofs.YtieompfmhnpnaaaGreatW.PrintWords Go.Proofs.YtieompfmhnpnaaaGreatW.PrintLast Go.Proofs.YtieompfmhnpnaaaGreatW.PrintMore
set_option linter.unusedVariables false
set_option linter.unusedSimpArgs false
def sameB (a b : ByteArray) : Bool := (bl a).map lowB == (bl b).map lowB
theorem same_l0 (a b : ByteArray) (hs : a.size ≤ 1099511627776) (hab : a.size = b.size) : ∀ (n i : Nat), i + n = a.size →
    Ev (fun k => text_Same.l0 k a b (a.size : Int) (i : Int)) (((bl a).drop i).map lowB == ((bl b).drop i).map lowB)
  | 0, i, hi => by
    have hl := bl_length a
    have hl2 := bl_length b
    refine Ev.step (fun k => by simp only [text_Same.l0]; rfl) ?_
    refine ev_no (by omega) ?_
    exact ev_done (by rw [List.drop_of_length_le (by omega), List.drop_of_length_le (by omega)]; rfl)
  | n + 1, i, hi => by
    refine Ev.step (fun k => by simp only [text_Same.l0]; rfl) ?_
    have hb := bt_byteAt a i (by omega)
    have hb2 := bt_byteAt b i (by omega)
    refine ev_yes (by omega) ?_
    refine ev_yes (by omega) ?_
    refine ev_yes (by omega) ?_
    simp only [hb, lower_at, Option.bind_some]
    refine ev_yes (by omega) ?_
    simp only [hb2, lower_at, Option.bind_some]
    rw [drop_byteAt a i (by omega), drop_byteAt b i (by omega), List.map_cons, List.map_cons]
    by_cases h : lowB (byteAt a i) = lowB (byteAt b i)
    · refine ev_yes (by rw [h]) ?_
      rw [h, List.cons_beq_cons, beq_self_eq_true, Bool.true_and, wrap_up i (by omega)]
      exact same_l0 a b hs hab n (i + 1) (by omega)
    · refine ev_no (fun e => h (by rw [← UInt8.toNat_inj]; omega)) ?_
      rw [List.cons_beq_cons, beq_eq_false_iff_ne.2 h, Bool.false_and]
      exact Ev.now _
theorem same_ev (a b : ByteArray) (hs : a.size ≤ 1099511627776) : Ev (fun k => text_Same.f k a b) (sameB a b) := by
  unfold text_Same.f sameB
  by_cases h : a.size = b.size
  · refine ev_yes (by omega) ?_
    have := same_l0 a b hs h a.size 0 (by omega)
    simpa using this
  · refine ev_no (by omega) ?_
    refine ev_done ?_
    symm
    rw [beq_eq_false_iff_ne]
    intro e
    have := congrArg List.length e
    rw [List.length_map, List.length_map, bl_length, bl_length] at this
    exact h this
theorem rd35 (l : List S35) (i : Nat) (h : i < l.length) : rd_T35 l (i : Int) = l[i] := by simp [rd_T35, List.getD, h]
theorem drop35 (l : List S35) (i : Nat) (h : i < l.length) : l.drop i = rd_T35 l (i : Int) :: l.drop (i + 1) := by
  rw [rd35 l i h]
  exact List.drop_eq_getElem_cons h
def Small35 (l : List S35) : Prop := l.length ≤ 1099511627776 ∧ ∀ f ∈ l, f.f0.size ≤ 1099511627776
theorem Small35.at {l : List S35} (h : Small35 l) {i : Nat} (hi : i < l.length) : (rd_T35 l (i : Int)).f0.size ≤ 1099511627776 := by
  rw [rd35 l i hi]
  exact h.2 _ (List.getElem_mem hi)
def getS (l : List S35) (nm : ByteArray) : ByteArray × Bool :=
  match l with
  | [] => ((⟨#[]⟩ : ByteArray), false)
  | f :: fs => if sameB f.f0 nm then (f.f1, true) else getS fs nm
theorem get_l0 (l : List S35) (nm : ByteArray) (hs : Small35 l) : ∀ (n i : Nat), i + n = l.length →
    Ev (fun k => header_Get.l0 k nm l (l.length : Int) (i : Int)) (getS (l.drop i) nm)
  | 0, i, hi => by
    refine Ev.step (fun k => by simp only [header_Get.l0]; rfl) ?_
    refine ev_no (by omega) ?_
    exact ev_done (by rw [List.drop_of_length_le (by omega)]; rfl)
  | n + 1, i, hi => by
    have hl := hs.1
    refine Ev.step (fun k => by simp only [header_Get.l0]; rfl) ?_
    refine ev_yes (by omega) ?_
    refine ev_yes (by omega) ?_
    refine ev_yes (by omega) ?_
    refine Ev.bind (same_ev _ nm (hs.at (i := i) (by omega))) ?_
    rw [drop35 l i (by omega), getS]
    by_cases h : sameB (rd_T35 l (i : Int)).f0 nm = true
    · rw [if_pos h]
      exact ev_yes h (Ev.now _)
    · rw [if_neg h]
      refine ev_no h ?_
      rw [wrap_up i (by omega)]
      exact get_l0 l nm hs n (i + 1) (by omega)
theorem get_ev (l : List S35) (nm : ByteArray) (hs : Small35 l) : Ev (fun k => header_Get.f k l nm) (getS l nm) := by
  unfold header_Get.f
  have := get_l0 l nm hs l.length 0 (by omega)
  simpa using this
def bytesF (l : List S35) : Nat := (l.map fun f => f.f0.size + f.f1.size).sum
def fewS (l : List S35) : Bool := l.all (fun f => f.f0.size ≤ 6000 && f.f1.size ≤ 6000) && (l.length ≤ 420 && bytesF l ≤ 6000)
theorem few_l0 (l : List S35) (hs : l.length ≤ 4398046511104) : ∀ (n i : Nat) (acc : Nat), i + n = l.length → acc ≤ 12000 * i →
    Ev (fun k => missivelaw09_few.l0 k l (acc : Int) (i : Int)) ((l.drop i).all (fun f => f.f0.size ≤ 6000 && f.f1.size ≤ 6000) && (l.length ≤ 420 && acc + bytesF (l.drop i) ≤ 6000))
  | 0, i, acc, hi, ha => by
    refine Ev.step (fun k => by simp only [missivelaw09_few.l0]; rfl) ?_
    refine ev_no (by omega) ?_
    rw [List.drop_of_length_le (by omega)]
    by_cases h : l.length ≤ 420
    · refine ev_yes (by omega) (ev_done ?_)
      simp [h, bytesF]
      omega
    · refine ev_no (by omega) (ev_done ?_)
      simp [h]
  | n + 1, i, acc, hi, ha => by
    refine Ev.step (fun k => by simp only [missivelaw09_few.l0]; rfl) ?_
    refine ev_yes (by omega) ?_
    refine ev_yes (by omega) ?_
    rw [drop35 l i (by omega), List.all_cons]
    by_cases h0 : (rd_T35 l (i : Int)).f0.size ≤ 6000
    · refine ev_no (by omega) ?_
      by_cases h1 : (rd_T35 l (i : Int)).f1.size ≤ 6000
      · refine ev_no (by omega) ?_
        have e1 : wrap64 (wrap64 ((acc : Int) + ((rd_T35 l (i : Int)).f0.size : Int)) + ((rd_T35 l (i : Int)).f1.size : Int)) = ((acc + (rd_T35 l (i : Int)).f0.size + (rd_T35 l (i : Int)).f1.size : Nat) : Int) := by
          rw [show wrap64 ((acc : Int) + ((rd_T35 l (i : Int)).f0.size : Int)) = ((acc + (rd_T35 l (i : Int)).f0.size : Nat) : Int) by
            rw [← i64_w, Int.natCast_add]; exact IntWalk.i64_in _ (by omega)]
          rw [← i64_w, Int.natCast_add]
          exact IntWalk.i64_in _ (by omega)
        rw [e1, wrap_up i (by omega)]
        have e2 : bytesF (rd_T35 l (i : Int) :: l.drop (i + 1)) = ((rd_T35 l (i : Int)).f0.size + (rd_T35 l (i : Int)).f1.size) + bytesF (l.drop (i + 1)) := by simp [bytesF]
        rw [e2, show acc + ((rd_T35 l (i : Int)).f0.size + (rd_T35 l (i : Int)).f1.size + bytesF (l.drop (i + 1))) = (acc + (rd_T35 l (i : Int)).f0.size + (rd_T35 l (i : Int)).f1.size) + bytesF (l.drop (i + 1)) by omega]
        have e3 : (decide ((rd_T35 l (i : Int)).f0.size ≤ 6000) && decide ((rd_T35 l (i : Int)).f1.size ≤ 6000)) = true := by simp [h0, h1]
        rw [e3, Bool.true_and]
        exact few_l0 l hs n (i + 1) _ (by omega) (by omega)
      · refine ev_yes (by omega) (ev_done ?_)
        simp [h1]
    · refine ev_yes (by omega) (ev_done ?_)
      simp [h0]
theorem few_ev (l : List S35) (hs : l.length ≤ 4398046511104) : Ev (fun k => missivelaw09_few.f k l) (fewS l) := by
  unfold missivelaw09_few.f fewS
  have := few_l0 l hs l.length 0 0 (by omega) (by omega)
  simpa using this
theorem fewS_small {l : List S35} (h : fewS l = true) : Small35 l ∧ l.length ≤ 420 ∧ bytesF l ≤ 6000 ∧ ∀ f ∈ l, f.f0.size ≤ 6000 ∧ f.f1.size ≤ 6000 := by
  unfold fewS at h
  simp only [Bool.and_eq_true, List.all_eq_true, decide_eq_true_eq] at h
  exact ⟨⟨by omega, fun f hf => by have := (h.1 f hf).1; omega⟩, h.2.1, h.2.2, h.1⟩
end Go.Proofs.YtieompfmhnpnaaaGreat.H
end
section
namespace Go.Proofs.YtieompfmhnpnaaaGreat.H
open Go.RowKit Go.Proofs.YtieompfmhnpnaaaGreatW.PrintWords Go.Proofs.YtieompfmhnpnaaaGreatW.PrintLast Go.Proofs.YtieompfmhnpnaaaGreatW.PrintMore
attribute [local go_sem] max2_int min2_int max_two min_two max_three min_three max_four min_four
set_option linter.unusedVariables false
set_option linter.unusedSimpArgs false
def text_Lines.l0 : Nat → ByteArray → List ByteArray → Option (List ByteArray)
  | 0, _, _ => none
  | k + 1, x0, x3 => if x0.toList = ([] : List UInt8) then (some x3) else ((strings_Cut.f x0 (⟨#[10]⟩ : ByteArray)).bind fun bt263 => (if bt263.2.2 = true then ((strings_TrimSuffix.f bt263.1 (⟨#[13]⟩ : ByteArray)).bind fun t266 => (if x3.length < 8796093022208 then (text_Lines.l0 k bt263.2.1 (x3 ++ [t266])) else (none))) else (if x3.length < 8796093022208 then (text_Lines.l0 k bt263.2.1 (x3 ++ [bt263.1])) else (none))))
def text_Lines.f (k : Nat) (a0 : ByteArray) : Option (List ByteArray) := text_Lines.l0 k a0 ([] : List ByteArray)
theorem text_Lines.mono_l : ∀ k, (∀ y0 y1, LeO (text_Lines.l0 k y0 y1) (text_Lines.l0 (k + 1) y0 y1))
  | 0 => fun _ _ r h => by simp [text_Lines.l0] at h
  | k + 1 => by
    have ih0 := text_Lines.mono_l k
    · intro y0 y1
      unfold text_Lines.l0
      repeat' first
      | (with_reducible exact ih0 _ _)
      | (with_reducible exact LeO.refl _)
      | (with_reducible exact LeO.none _)
      | (with_reducible refine LeO.ite ?_ ?_)
      | (with_reducible refine LeO.bind ?_ (fun _ => ?_))
      | exact ih0 _ _
      | exact LeO.none _
      | refine LeO.ite ?_ ?_
      | refine LeO.bind ?_ (fun _ => ?_)
theorem text_Lines.mono : ∀ a0 k, LeO (text_Lines.f k a0) (text_Lines.f (k + 1) a0) := by
  intro a0 k
  have ih0 := text_Lines.mono_l k
  unfold text_Lines.f
  repeat' first
      | (with_reducible exact ih0 _ _)
      | (with_reducible exact LeO.refl _)
      | (with_reducible exact LeO.none _)
      | (with_reducible refine LeO.ite ?_ ?_)
      | (with_reducible refine LeO.bind ?_ (fun _ => ?_))
      | exact ih0 _ _
      | exact LeO.none _
      | refine LeO.ite ?_ ?_
      | refine LeO.bind ?_ (fun _ => ?_)
set_option maxHeartbeats 8000000 in
set_option maxRecDepth 100000 in
theorem text_Lines.calls (k : Nat) (a0 : ByteArray) (r : List ByteArray) (w : World) (h : text_Lines.f k a0 = some r) :
    Calls Tryz.prog 25 #[.string a0] w fun e w' => ∃ v0_ : Value, e = .returned (v0_) ∧ Kd.R Kd.string 9 w' w.heap.size (fun _ => True) v0_ r ∧ Below w.heap.size w w' := by
  have HB := Aside0.mk (Below.refl w.heap.size w)
  have H : (text_Lines.l0 k a0 ([] : List ByteArray)) = some r := h
  clear h
  have H' := Aside0.mk H
  clear H
  go_enter Tryz.func25, Tryz.ntmps25
  go_wp2
  go_loopg [0, 3] k (fun kq v0 v3 w' => ∃ (x0_1 : ByteArray) (x3_1 : List ByteArray), v0 = .string x0_1 ∧ Aside0 (text_Lines.l0 kq x0_1 x3_1 = some r) ∧ Aside0 (kq ≤ k) ∧ Aside0 (Kd.R Kd.string 9 w' w.heap.size (fun _ => True) v3 x3_1) ∧ Aside0 (Below w.heap.size w w'))
  case atStart => exact ⟨(a0), (([] : List ByteArray)), (by first | rfl | (simp; done) | (simp [*]; done)), H', ⟨Nat.le_refl _⟩, ⟨by first | exact Kd.R_nil _ _ _ _ _ | exact Kd.N_nil _ _ _ _ _ | exact Kd.V_nil _ _ _ _ _ | exact Kd.Q_nil _ _ _ _ _ | exact Kd.S_nil _ _ _ _ _⟩, ⟨by repeat (first | (with_reducible first | exact HB.out | apply below_alloc | apply pw_below_drewN | apply below_drew1) | exact HB.out)⟩⟩
  case round =>
    clear H'
    obtain ⟨x0_1, x3_1, rfl, HA, HK1, HO_3, HB⟩ := hrel
    cases gk with
    | zero => exact absurd HA.out (by simp [text_Lines.l0])
    | succ k1 =>
      have H := HA.out
      clear HA
      simp only [text_Lines.l0] at H
      by_cases c2 : x0_1.toList = ([] : List UInt8)
      · rw [if_pos c2] at H
        have c2b0 : (x0_1.toList == ([] : List UInt8)) = true := beq_iff_eq.mpr c2
        have c2b1 : (x0_1.toList != ([] : List UInt8)) = false := bne_eq_false_iff_eq.mpr c2
        clear c2
        obtain rfl := Option.some.inj H
        go_wp2
        go_ret
        exact ⟨_, by first | rfl | (simp [errW_none, errW_some]; done) | (simp [errW_none, errW_some]; exact isEmpty_nbne _) | (simp [errW_none, errW_some]; exact isEmpty_bne _) | (simp [errW_none, errW_some] <;> rfl) | (simp [*, errW_none, errW_some] <;> rfl), by (with_reducible repeat (first | apply Kd.R_alloc | apply Kd.R_drewN | apply Kd.R_drew)); exact HO_3.out, by repeat (first | (with_reducible first | exact HB.out | apply below_alloc | apply pw_below_drewN | apply below_drew1) | exact HB.out)⟩
      · rw [if_neg c2] at H
        have c2b0 : (x0_1.toList == ([] : List UInt8)) = false := beq_eq_false_iff_ne.mpr c2
        have c2b1 : (x0_1.toList != ([] : List UInt8)) = true := bne_iff_ne.mpr c2
        replace H := Option.bind_eq_some_iff.mp H
        obtain ⟨⟨t263, t264, t265⟩, A30, H⟩ := H
        replace H : (if t265 = true then ((strings_TrimSuffix.f t263 (⟨#[13]⟩ : ByteArray)).bind fun t266 => (if x3_1.length < 8796093022208 then (text_Lines.l0 k1 t264 (x3_1 ++ [t266])) else (none))) else (if x3_1.length < 8796093022208 then (text_Lines.l0 k1 t264 (x3_1 ++ [t263])) else (none))) = some r := H
        have A3 := Aside0.mk A30
        clear A30
        by_cases c4 : t265 = true
        · subst c4
          have H1 : ((strings_TrimSuffix.f t263 (⟨#[13]⟩ : ByteArray)).bind fun t266 => (if x3_1.length < 8796093022208 then (text_Lines.l0 k1 t264 (x3_1 ++ [t266])) else (none))) = some r := by rw [if_pos rfl] at H; exact H
          clear H
          have H := H1
          clear H1
          replace H := Option.bind_eq_some_iff.mp H
          obtain ⟨t266, A50, H⟩ := H
          replace H : (if x3_1.length < 8796093022208 then (text_Lines.l0 k1 t264 (x3_1 ++ [t266])) else (none)) = some r := H
          have A5 := Aside0.mk A50
          clear A50
          by_cases c6 : x3_1.length < 8796093022208
          · rw [if_pos c6] at H
            have LMc6 := Aside0.mk c6
            clear c6
            obtain ⟨y267, hy267⟩ : ∃ y_ : List ByteArray, y_ = (x3_1 ++ [t266]) := ⟨_, rfl⟩
            replace H : (text_Lines.l0 k1 t264 y267) = some r := by first | (rw [hy267]; with_reducible exact H) | (have H2_ := (Option.bind_some _ _).symm.trans H; rw [hy267]; with_reducible exact H2_) | (have H2_ := (Option.bind_some _ _).symm.trans H; with_reducible exact H2_) | with_reducible exact H | (rw [hy267]; exact H) | exact H
            have Ny267 := Aside0.mk hy267
            clear hy267
            have H' := Aside0.mk H
            clear H
            go_wp2_with (first | ((with_reducible refine gate_callee (f := 40) rfl ?_); refine goesL_ (some 11) rfl rfl Tryz.func40 (by kernel_rfl) rfl #[.string x0_1, .string (⟨#[10]⟩ : ByteArray)] rfl (by (try simp only [List.map_toArray, List.map_cons, List.map_nil]); first | done | rfl | (simp only [List.length_drop, List.length_take]; rfl)) ?_; (with_reducible refine (strings_Cut.calls x0_1 (⟨#[10]⟩ : ByteArray) t263 t264 true _ A3.out).mono ?_); rintro e w' ⟨rfl, ⟨nd, rfl⟩⟩; refine ⟨_, rfl, ?_⟩) | ((with_reducible refine gate_callee (f := 63) rfl ?_); refine goesL_ (some 17) rfl rfl Tryz.func63 (by kernel_rfl) rfl #[.string t263, .string (⟨#[13]⟩ : ByteArray)] rfl (by (try simp only [List.map_toArray, List.map_cons, List.map_nil]); first | done | rfl | (simp only [List.length_drop, List.length_take]; rfl)) ?_; (with_reducible refine (strings_TrimSuffix.calls t263 (⟨#[13]⟩ : ByteArray) t266 _ A5.out).mono ?_); rintro e w' ⟨rfl, ⟨nd, rfl⟩⟩; refine ⟨_, rfl, ?_⟩) | ((with_reducible refine gate_builtin (b := .append) (xs := #[.tmp 18, .tmp 20]) rfl ?_); at_builtin; refine Kd.R_append Kd.string (w0 := w) w.heap.size rfl (.tmp 18) (.tmp 20) 42 9 (.string ⟨#[]⟩) 16 rfl Tryz.underlying42 info9 rfl (by decide) (by omega) u3 x3_1 t266 [.string t266] (fun _ => True) (fun _ => False) rfl rfl ?aP (fun _ hk => hk.elim) ?aF ?aO ?aB ?aS ?aL ?_; (case aP => exact rfl); (case aB => exact (by repeat (first | (with_reducible first | exact HB.out | apply below_alloc | apply pw_below_drewN | apply below_drew1) | exact HB.out))); (case aF => exact (fun _ _ => trivial)); (case aO => exact (by (with_reducible repeat (first | apply Kd.R_alloc | apply Kd.R_drewN | apply Kd.R_drew)); exact HO_3.out)); (case aS => exact (below_size (by repeat (first | (with_reducible first | exact HB.out | apply below_alloc | apply pw_below_drewN | apply below_drew1) | exact HB.out)))); (case aL => have := LMc6.out; omega); intro v268 w7 ho hb hg hat; rw [← Ny267.out] at ho; have n0_ := Aside0.mk (hb); have n1_ := Aside0.mk (ho); clear HB; clear HO_3; have HB := n0_; have HO269 := n1_; clear n0_ n1_; clear ho hb hg hat))
            go_roundg k1
            case measure => have := HK1.out; omega
            case rel => exact ⟨(t264), (y267), (by first | rfl | (simp; done) | (simp [*]; done)), H', ⟨by have := HK1.out; omega⟩, ⟨by (with_reducible repeat (first | apply Kd.R_alloc | apply Kd.R_drewN | apply Kd.R_drew)); exact HO269.out⟩, ⟨by repeat (first | (with_reducible first | exact HB.out | apply below_alloc | apply pw_below_drewN | apply below_drew1) | exact HB.out)⟩⟩
          · rw [if_neg c6] at H
            exact absurd H (by simp)
        · replace c4 := Bool.eq_false_iff.mpr c4
          subst c4
          have H1 : (if x3_1.length < 8796093022208 then (text_Lines.l0 k1 t264 (x3_1 ++ [t263])) else (none)) = some r := by rw [if_neg (show ¬ (false = true) by decide)] at H; exact H
          clear H
          have H := H1
          clear H1
          by_cases c8 : x3_1.length < 8796093022208
          · rw [if_pos c8] at H
            have LMc8 := Aside0.mk c8
            clear c8
            obtain ⟨y270, hy270⟩ : ∃ y_ : List ByteArray, y_ = (x3_1 ++ [t263]) := ⟨_, rfl⟩
            replace H : (text_Lines.l0 k1 t264 y270) = some r := by first | (rw [hy270]; with_reducible exact H) | (have H2_ := (Option.bind_some _ _).symm.trans H; rw [hy270]; with_reducible exact H2_) | (have H2_ := (Option.bind_some _ _).symm.trans H; with_reducible exact H2_) | with_reducible exact H | (rw [hy270]; exact H) | exact H
            have Ny270 := Aside0.mk hy270
            clear hy270
            have H' := Aside0.mk H
            clear H
            go_wp2_with (first | ((with_reducible refine gate_callee (f := 40) rfl ?_); refine goesL_ (some 11) rfl rfl Tryz.func40 (by kernel_rfl) rfl #[.string x0_1, .string (⟨#[10]⟩ : ByteArray)] rfl (by (try simp only [List.map_toArray, List.map_cons, List.map_nil]); first | done | rfl | (simp only [List.length_drop, List.length_take]; rfl)) ?_; (with_reducible refine (strings_Cut.calls x0_1 (⟨#[10]⟩ : ByteArray) t263 t264 false _ A3.out).mono ?_); rintro e w' ⟨rfl, ⟨nd, rfl⟩⟩; refine ⟨_, rfl, ?_⟩) | ((with_reducible refine gate_builtin (b := .append) (xs := #[.tmp 18, .tmp 20]) rfl ?_); at_builtin; refine Kd.R_append Kd.string (w0 := w) w.heap.size rfl (.tmp 18) (.tmp 20) 42 9 (.string ⟨#[]⟩) 16 rfl Tryz.underlying42 info9 rfl (by decide) (by omega) u3 x3_1 t263 [.string t263] (fun _ => True) (fun _ => False) rfl rfl ?aP (fun _ hk => hk.elim) ?aF ?aO ?aB ?aS ?aL ?_; (case aP => exact rfl); (case aB => exact (by repeat (first | (with_reducible first | exact HB.out | apply below_alloc | apply pw_below_drewN | apply below_drew1) | exact HB.out))); (case aF => exact (fun _ _ => trivial)); (case aO => exact (by (with_reducible repeat (first | apply Kd.R_alloc | apply Kd.R_drewN | apply Kd.R_drew)); exact HO_3.out)); (case aS => exact (below_size (by repeat (first | (with_reducible first | exact HB.out | apply below_alloc | apply pw_below_drewN | apply below_drew1) | exact HB.out)))); (case aL => have := LMc8.out; omega); intro v271 w9 ho hb hg hat; rw [← Ny270.out] at ho; have n0_ := Aside0.mk (hb); have n1_ := Aside0.mk (ho); clear HB; clear HO_3; have HB := n0_; have HO272 := n1_; clear n0_ n1_; clear ho hb hg hat))
            go_roundg k1
            case measure => have := HK1.out; omega
            case rel => exact ⟨(t264), (y270), (by first | rfl | (simp; done) | (simp [*]; done)), H', ⟨by have := HK1.out; omega⟩, ⟨by (with_reducible repeat (first | apply Kd.R_alloc | apply Kd.R_drewN | apply Kd.R_drew)); exact HO272.out⟩, ⟨by repeat (first | (with_reducible first | exact HB.out | apply below_alloc | apply pw_below_drewN | apply below_drew1) | exact HB.out)⟩⟩
          · rw [if_neg c8] at H
            exact absurd H (by simp)
def missiveref01_Same.f (a0 : ByteArray) (a1 : ByteArray) : Option (Bool) := (missiveref01_Lower.f a0).bind fun t327 => ((missiveref01_Lower.f a1).bind fun t328 => (some (t327.toList == t328.toList)))
def missiveref09_Get.l0 : Nat → List (S35) → ByteArray → Int → Option (ByteArray × Bool)
  | 0, _, _, _ => none
  | k + 1, x0, x1, x6 => if x6 < (x0.length : Int) then (if 0 ≤ x6 then ((missiveref01_Same.f ((rd_T35 x0 x6).f0) x1).bind fun t330 => (if t330 = true then (some ((rd_T35 x0 x6).f1, true)) else (missiveref09_Get.l0 k x0 x1 (wrap64 (x6 + 1))))) else (none)) else (some ((⟨#[]⟩ : ByteArray), false))
def missiveref09_Get.f (k : Nat) (l0 : List (S35)) (a1 : ByteArray) : Option (ByteArray × Bool) := missiveref09_Get.l0 k l0 a1 0
theorem missiveref09_Get.mono_l : ∀ k, (∀ y0 y1 y2, LeO (missiveref09_Get.l0 k y0 y1 y2) (missiveref09_Get.l0 (k + 1) y0 y1 y2))
  | 0 => fun _ _ _ r h => by simp [missiveref09_Get.l0] at h
  | k + 1 => by
    have ih0 := missiveref09_Get.mono_l k
    · intro y0 y1 y2
      unfold missiveref09_Get.l0
      repeat' first
      | (with_reducible exact ih0 _ _ _)
      | (with_reducible exact LeO.refl _)
      | (with_reducible exact LeO.none _)
      | (with_reducible refine LeO.ite ?_ ?_)
      | (with_reducible refine LeO.bind ?_ (fun _ => ?_))
      | exact ih0 _ _ _
      | exact LeO.none _
      | refine LeO.ite ?_ ?_
      | refine LeO.bind ?_ (fun _ => ?_)
theorem missiveref09_Get.mono : ∀ a0 a1 k, LeO (missiveref09_Get.f k a0 a1) (missiveref09_Get.f (k + 1) a0 a1) := by
  intro a0 a1 k
  have ih0 := missiveref09_Get.mono_l k
  unfold missiveref09_Get.f
  repeat' first
      | (with_reducible exact ih0 _ _ _)
      | (with_reducible exact LeO.refl _)
      | (with_reducible exact LeO.none _)
      | (with_reducible refine LeO.ite ?_ ?_)
      | (with_reducible refine LeO.bind ?_ (fun _ => ?_))
      | exact ih0 _ _ _
      | exact LeO.none _
      | refine LeO.ite ?_ ?_
      | refine LeO.bind ?_ (fun _ => ?_)
def missiveref09_All.l0 : Nat → List (S35) → ByteArray → List ByteArray → Int → Option (List ByteArray)
  | 0, _, _, _, _ => none
  | k + 1, x0, x1, x5, x6 => if x6 < (x0.length : Int) then (if 0 ≤ x6 then ((missiveref01_Same.f ((rd_T35 x0 x6).f0) x1).bind fun t341 => (if t341 = true then (if x5.length < 8796093022208 then (missiveref09_All.l0 k x0 x1 (x5 ++ [(rd_T35 x0 x6).f1]) (wrap64 (x6 + 1))) else (none)) else (missiveref09_All.l0 k x0 x1 x5 (wrap64 (x6 + 1))))) else (none)) else (some x5)
def missiveref09_All.f (k : Nat) (l0 : List (S35)) (a1 : ByteArray) : Option (List ByteArray) := missiveref09_All.l0 k l0 a1 ([] : List ByteArray) 0
theorem missiveref09_All.mono_l : ∀ k, (∀ y0 y1 y2 y3, LeO (missiveref09_All.l0 k y0 y1 y2 y3) (missiveref09_All.l0 (k + 1) y0 y1 y2 y3))
  | 0 => fun _ _ _ _ r h => by simp [missiveref09_All.l0] at h
  | k + 1 => by
    have ih0 := missiveref09_All.mono_l k
    · intro y0 y1 y2 y3
      unfold missiveref09_All.l0
      repeat' first
      | (with_reducible exact ih0 _ _ _ _)
      | (with_reducible exact LeO.refl _)
      | (with_reducible exact LeO.none _)
      | (with_reducible refine LeO.ite ?_ ?_)
      | (with_reducible refine LeO.bind ?_ (fun _ => ?_))
      | exact ih0 _ _ _ _
      | exact LeO.none _
      | refine LeO.ite ?_ ?_
      | refine LeO.bind ?_ (fun _ => ?_)
theorem missiveref09_All.mono : ∀ a0 a1 k, LeO (missiveref09_All.f k a0 a1) (missiveref09_All.f (k + 1) a0 a1) := by
  intro a0 a1 k
  have ih0 := missiveref09_All.mono_l k
  unfold missiveref09_All.f
  repeat' first
      | (with_reducible exact ih0 _ _ _ _)
      | (with_reducible exact LeO.refl _)
      | (with_reducible exact LeO.none _)
      | (with_reducible refine LeO.ite ?_ ?_)
      | (with_reducible refine LeO.bind ?_ (fun _ => ?_))
      | exact ih0 _ _ _ _
      | exact LeO.none _
      | refine LeO.ite ?_ ?_
      | refine LeO.bind ?_ (fun _ => ?_)
end Go.Proofs.YtieompfmhnpnaaaGreat.H
end
section
namespace Go.Proofs.YtieompfmhnpnaaaGreat.H
open Go.RowKit Go.Proofs.YtieompfmhnpnaaaGreatW.PrintWords Go.Proofs.YtieompfmhnpnaaaGreatW.PrintLast Go.Proofs.YtieompfmhnpnaaaGreatW.PrintMore
set_option linter.unusedVariables false
set_option linter.unusedSimpArgs false
def fQ (t n : Nat) (v92 v34 : Value) (j : Nat) : Value := if j = 256 then .slice (some ⟨t, 0, none⟩) n 2 else if j = 92 then v92 else if j = 34 then v34 else .slice none 0 0
def RowQ (W : World) (q t n : Nat) (v92 v34 : Value) : Prop := ∀ j, j < 257 → W.cell? ⟨q, j, none⟩ = some (fQ t n v92 v34 j) ∧ W.frozen? ⟨q, j, none⟩ = false
section
variable {W W' : World} {q t n : Nat} {v92 v34 : Value}
theorem RowQ.setAt (h : RowQ W q t n v92 v34) {k : Nat} {v : Value} {n' : Nat} {a b : Value} (hk : k < 257) (hs : fQ t n' a b k = v) (ho : ∀ j, j < 257 → j ≠ k → fQ t n' a b j = fQ t n v92 v34 j) : RowQ (W.setCell ⟨q, k, none⟩ v) q t n' a b := fun j hj => by
  refine ⟨?_, by rw [World.frozen?_setCell]; exact (h j hj).2⟩
  by_cases e : j = k
  · subst e
    rw [hs]
    exact World.cell?_setCell_same _ _ _ (h j hj).1
  · rw [ho j hj e]
    exact (World.cell?_setCell_other _ ⟨q, k, none⟩ ⟨q, j, none⟩ _ (fun e2 => by injection e2 with _ e3; exact e e3.symm)).trans (h j hj).1
theorem RowQ.set256 (h : RowQ W q t n v92 v34) (n' : Nat) : RowQ (W.setCell ⟨q, 256, none⟩ (.slice (some ⟨t, 0, none⟩) n' 2)) q t n' v92 v34 :=
  h.setAt (by decide) rfl (fun j _ hj => by simp [fQ, hj])
theorem RowQ.set92 (h : RowQ W q t n v92 v34) (v : Value) : RowQ (W.setCell ⟨q, 92, none⟩ v) q t n v v34 :=
  h.setAt (by decide) rfl (fun j _ hj => by simp [fQ, hj])
theorem RowQ.set34 (h : RowQ W q t n v92 v34) (v : Value) : RowQ (W.setCell ⟨q, 34, none⟩ v) q t n v92 v :=
  h.setAt (by decide) rfl (fun j _ hj => by simp [fQ, hj])
theorem RowQ.far (h : RowQ W q t n v92 v34) {g : Nat} (hne : g ≠ q) (j : Nat) (v : Value) : RowQ (W.setCell ⟨g, j, none⟩ v) q t n v92 v34 := fun i hi =>
  ⟨(World.cell?_setCell_far W ⟨g, j, none⟩ ⟨q, i, none⟩ v hne).trans (h i hi).1, by rw [World.frozen?_setCell]; exact (h i hi).2⟩
theorem RowQ.grown {g : Nat} (h : RowQ W q t n v92 v34) (hb : W.grownBy W' (some g)) (hne : g ≠ q) : RowQ W' q t n v92 v34 := fun j hj => by
  have hlt : q < W.heap.size := World.block_lt_of_cell? W _ (h j hj).1
  have hbk := hb.block q hlt (fun e => hne (by injection e with e; exact e.symm))
  exact ⟨(World.cell?_of_block (a := ⟨q, j, none⟩) hbk).trans (h j hj).1, (World.frozen?_of_block (a := ⟨q, j, none⟩) hbk).trans (h j hj).2⟩
theorem RowQ.alloc (h : RowQ W q t n v92 v34) (o : Obj) : RowQ (W.alloc o) q t n v92 v34 := fun j hj => by
  have hlt : q < W.heap.size := World.block_lt_of_cell? W _ (h j hj).1
  have hbk := Lib.alloc_old W o q hlt
  exact ⟨(World.cell?_of_block (a := ⟨q, j, none⟩) hbk).trans (h j hj).1, (World.frozen?_of_block (a := ⟨q, j, none⟩) hbk).trans (h j hj).2⟩
theorem RowQ.bytes (h : RowQ W q t n v92 v34) (s : ByteArray) : RowQ (Lib.bytesWorld W 5 s) q t n v92 v34 := fun j hj => by
  have hlt : q < W.heap.size := World.block_lt_of_cell? W _ (h j hj).1
  have hbk := (below_bytes (Below.refl W.heap.size W) (Nat.le_refl _) s).block q hlt
  exact ⟨(World.cell?_of_block (a := ⟨q, j, none⟩) hbk).trans (h j hj).1, (World.frozen?_of_block (a := ⟨q, j, none⟩) hbk).trans (h j hj).2⟩
theorem RowQ.below {B : Nat} (h : RowQ W q t n v92 v34) (hb : Below B W W') (hB : q < B) : RowQ W' q t n v92 v34 := fun j hj =>
  ⟨(hb.cell (p := ⟨q, j, none⟩) hB).trans (h j hj).1, (hb.frozen (p := ⟨q, j, none⟩) hB).trans (h j hj).2⟩
end
def repQ (n : Nat) (v : Value) : Array Value := (List.replicate n (Value.slice none 0 0) ++ [v]).toArray
theorem repQ_size (n : Nat) (v : Value) : (repQ n v).size = n + 1 := by simp [repQ]
theorem repQ_all (n : Nat) (v : Value) (hv : v.oneCell' = true) : (repQ n v).all (·.oneCell') = true := by
  rw [Array.all_eq_true']
  intro x hx
  simp [repQ] at hx
  rcases hx with ⟨_, rfl⟩ | rfl
  · rfl
  · exact hv
theorem repQ_set (n : Nat) (v : Value) : (List.replicate (n + 1) (Value.slice none 0 0)).set n v = (repQ n v).toList := by
  have : (List.replicate (n + 1) (Value.slice none 0 0)) = List.replicate n (Value.slice none 0 0) ++ [Value.slice none 0 0] := List.replicate_succ'
  rw [this, List.set_append_right _ _ (by simp)]
  simp [repQ]
theorem repQ_at (n : Nat) (v : Value) (j : Nat) (hj : j < n + 1) : (repQ n v)[j]? = some (if j = n then v else .slice none 0 0) := by
  unfold repQ
  by_cases e : j = n
  · subst e; simp
  · rw [if_neg e]
    have : j < n := by omega
    simp [List.getElem?_append, this]
theorem conv_one (W : World) (c : Nat) (hc : c < 256) : (convert 45 9 (.slice (some ⟨W.heap.size, 0, none⟩) 1 1)).run Tryz.prog (W.alloc (.cells #[.int .u8 (c : Int)] 5)) = .ok (.string ⟨#[UInt8.ofNat c]⟩) (W.alloc (.cells #[.int .u8 (c : Int)] 5)) := by
  have := run_convert_bytes_arg (P := Tryz.prog) (W.alloc (.cells #[.int .u8 (c : Int)] 5)) 45 5 Tryz.underlying45 Tryz.underlying5 W.heap.size 0 1 1 [(c : Int)] rfl (fun i hi => by
    obtain rfl : i = 0 := by simp at hi; omega
    rw [World.cell?_alloc_new]
    rfl) 9 Tryz.underlying9
  refine this.trans ?_
  have e : strOfNums [(c : Int)] = ⟨#[UInt8.ofNat c]⟩ := by
    unfold strOfNums
    simp
  rw [e]
theorem zeroCells132_eq : Tryz.zeroCells132.toList = List.replicate (256 + 1) (Value.slice none 0 0) := by kernel_rfl
def rowQ0 (t : Nat) : Array Value := repQ 256 (Value.slice (some ⟨t, 0, none⟩) 0 2)
theorem rowQ0_eq (t : Nat) : Tryz.zeroCells132.toList.set 256 (Value.slice (some ⟨t, 0, none⟩) 0 2) = (rowQ0 t).toList := by
  rw [zeroCells132_eq]
  exact repQ_set 256 _
theorem rowQ0_size (t : Nat) : (rowQ0 t).size = 257 := repQ_size 256 _
theorem rowQ0_all (t : Nat) : (rowQ0 t).all (·.oneCell') = true := repQ_all 256 _ rfl
theorem rowQ0_at (W : World) (t : Nat) : RowQ (W.alloc (.cells (rowQ0 t) 132)) W.heap.size t 0 (.slice none 0 0) (.slice none 0 0) := fun j hj => by
  refine ⟨?_, Lib.frozen_of_heap (heap_alloc_new W _) j⟩
  rw [World.cell?_alloc_new]
  unfold rowQ0
  rw [repQ_at 256 _ j hj]
  unfold fQ
  by_cases e : j = 256
  · rw [if_pos e, if_pos e]
  · rw [if_neg e, if_neg e]
    simp
def QS (n0 : Nat) (w : World) (i : Value) (W : World) : Prop :=
  (i = .int .i64 2 ∧ RowQ W (n0 + 1) n0 0 (.slice none 0 0) (.slice none 0 0) ∧ W.ownsRow n0 9 1 (.slice (some ⟨n0, 0, none⟩) 0 2) 0 [] ∧ Below n0 w W) ∨
  (i = .int .i64 0 ∧ ∃ p1 c1, RowQ W (n0 + 1) n0 1 (.slice (some ⟨p1, 0, none⟩) 2 c1) (.slice none 0 0) ∧ W.ownsRow n0 9 1 (.slice (some ⟨n0, 0, none⟩) 1 2) 1 [.string ⟨#[92]⟩] ∧ RowB W p1 2 [92, 92] ∧ n0 + 1 < p1 ∧ Below n0 w W) ∨
  (i = .int .i64 (-2) ∧ ∃ p1 c1 p2 c2, RowQ W (n0 + 1) n0 2 (.slice (some ⟨p1, 0, none⟩) 2 c1) (.slice (some ⟨p2, 0, none⟩) 2 c2) ∧ W.ownsRow n0 9 1 (.slice (some ⟨n0, 0, none⟩) 2 2) 2 [.string ⟨#[92]⟩, .string ⟨#[34]⟩] ∧ RowB W p1 2 [92, 92] ∧ RowB W p2 2 [92, 34] ∧ n0 + 1 < p1 ∧ n0 + 1 < p2 ∧ Below n0 w W)
theorem stage_next {n0 k : Nat} {w wr w2 : World} {o1 o2 : Obj} {xs : List Value} (hq : n0 + 1 < wr.heap.size) (hB1 : Below n0 w wr) (hn : n0 ≤ w.heap.size)
    (hO : w2.ownsRow n0 9 1 (.slice (some ⟨n0, 0, none⟩) k 2) k xs) (hg : ((wr.alloc o1).alloc o2).grownBy w2 (some n0)) (s : ByteArray) (u v : Value) (j : Nat) :
    ((Lib.bytesWorld (w2.setCell ⟨n0 + 1, 256, none⟩ u) 5 s).setCell ⟨n0 + 1, j, none⟩ v).ownsRow n0 9 1 (.slice (some ⟨n0, 0, none⟩) k 2) k xs ∧
    RowB ((Lib.bytesWorld (w2.setCell ⟨n0 + 1, 256, none⟩ u) 5 s).setCell ⟨n0 + 1, j, none⟩ v) w2.heap.size s.size (tabRow s [] 0) ∧ n0 + 1 < w2.heap.size ∧
    Below n0 w ((Lib.bytesWorld (w2.setCell ⟨n0 + 1, 256, none⟩ u) 5 s).setCell ⟨n0 + 1, j, none⟩ v) ∧
    (∀ p m ys, n0 + 1 < p → 0 < m → RowB wr p m ys → RowB ((Lib.bytesWorld (w2.setCell ⟨n0 + 1, 256, none⟩ u) 5 s).setCell ⟨n0 + 1, j, none⟩ v) p m ys) := by
  have hs2 : n0 + 1 < w2.heap.size := by have := hg.size; simp at this; omega
  have hs3 : (w2.setCell ⟨n0 + 1, 256, none⟩ u).heap.size = w2.heap.size := by simp [World.setCell]
  have hbb := below_bytes (Below.refl (w2.setCell ⟨n0 + 1, 256, none⟩ u).heap.size _) (Nat.le_refl _) s
  refine ⟨?_, ?_, hs2, ?_, ?_⟩
  · have h3' : (w2.setCell ⟨n0 + 1, 256, none⟩ u).ownsRow n0 9 1 (.slice (some ⟨n0, 0, none⟩) k 2) k xs := own_setCell hO (by simp [Value.ownBlock]) u
    exact own_setCell (pw_own_below h3' hbb) (by simp [Value.ownBlock]) v
  · have := (row_of_bytes (w2.setCell ⟨n0 + 1, 256, none⟩ u) s []).far (g := n0 + 1) (by rw [hs3]; omega) j v
    rw [hs3] at this
    exact this
  · refine Below.setCell ?_ (p := ⟨n0 + 1, j, none⟩) (by simp) v
    refine below_bytes ?_ (by rw [hs3]; omega) s
    refine Below.setCell ?_ (p := ⟨n0 + 1, 256, none⟩) (by simp) u
    have hs := hB1.size
    exact ((hB1.alloc (by omega) _).alloc (by simp; omega) _).grown hg (by simp; omega) (fun q e => by injection e with e; omega)
  · intro p m ys hp hm hr
    have hlt : p < wr.heap.size := World.block_lt_of_cell? wr ⟨p, 0, none⟩ (hr 0 hm).1
    have r2 : RowB w2 p m ys := fun i hi => by
      have hbk : w2.heap[p]? = wr.heap[p]? := by
        rw [hg.block p (by simp; omega) (fun e => by injection e with e; omega), Lib.alloc_old _ _ _ (by simp; omega), Lib.alloc_old _ _ _ hlt]
      exact ⟨(World.cell?_of_block (a := ⟨p, i, none⟩) hbk).trans (hr i hi).1, (World.frozen?_of_block (a := ⟨p, i, none⟩) hbk).trans (hr i hi).2⟩
    have hlt2 : p < w2.heap.size := World.block_lt_of_cell? w2 ⟨p, 0, none⟩ (r2 0 hm).1
    exact (((r2.far (g := n0 + 1) (by omega) 256 u).below hbb (by rw [hs3]; exact hlt2))).far (by omega) j v
def TabQ (W : World) (B q : Nat) : Prop := ∃ t p1 c1 p2 c2, B ≤ q ∧ RowQ W q t 2 (.slice (some ⟨p1, 0, none⟩) 2 c1) (.slice (some ⟨p2, 0, none⟩) 2 c2) ∧ B ≤ t ∧ W.cell? ⟨t, 0, none⟩ = some (.string ⟨#[92]⟩) ∧ W.cell? ⟨t, 1, none⟩ = some (.string ⟨#[34]⟩) ∧ B ≤ p1 ∧ RowB W p1 2 [92, 92] ∧ B ≤ p2 ∧ RowB W p2 2 [92, 34]
set_option maxRecDepth 100000 in
set_option maxHeartbeats 1000000 in
theorem build_strings (B g : Nat) (st : Int) (w : World) (hr : NewRep B w g st ⟨#[34]⟩ ⟨#[92, 34]⟩ ⟨#[92]⟩ ⟨#[92, 92]⟩) :
    Calls Tryz.prog 95 #[.pointer (some ⟨g, 0, none⟩)] w fun e w' => ∃ h, e = .returned (.iface 133 (.pointer (some ⟨h, 0, none⟩))) ∧ TabQ w' w.heap.size h ∧ Below w.heap.size w w' := by
  obtain ⟨hge, -, -, -, -, h, cap, hB, hne, g4, c0, c1, c2, c3⟩ := hr
  have hlt : h < w.heap.size := World.block_lt_of_cell? w ⟨h, 0, none⟩ c0
  go_enter Tryz.func95, Tryz.ntmps95
  go_wp2_with fail
  go_loop [4, 5] (fun a i => ∃ k : Nat, k ≤ 2 ∧ i = .int .i64 (2 * k : Nat) ∧ (0 < k → a = .bool false) ∧ ∃ b, a = .bool b) (fun _ i => (4 - intOf i).toNat)
  case atStart => exact ⟨0, by omega, rfl, fun h => by omega, _, rfl⟩
  case round =>
    obtain ⟨k, hk, rfl, ha, b, rfl⟩ := hrel
    obtain rfl | rfl | rfl : k = 0 ∨ k = 1 ∨ k = 2 := by omega
    · clear ha
      go_wp2_with fail
      go_round
      case rel => exact ⟨1, by omega, rfl, fun _ => rfl, _, rfl⟩
      case measure => simp [intOf]
    · clear ha
      go_wp2_with fail
      go_round
      case rel => exact ⟨2, by omega, rfl, fun _ => rfl, _, rfl⟩
      case measure => simp [intOf]
    · obtain rfl : b = false := by have := ha (by omega); injection this
      clear ha
      have hmk : (Instr.makeSlice 42 (.int .i64 0) (.int .i64 2)).run Tryz.prog w = .ok (.slice (some ⟨w.heap.size, 0, none⟩) 0 2) (w.alloc (.cells #[.string ⟨#[]⟩, .string ⟨#[]⟩] 9)) := by
        obtain ⟨i0, hi, hz0, hz1, hz2⟩ := info_parts info9
        have := run_make (P := Tryz.prog) (w := w) 42 9 i0 (.string ⟨#[]⟩) Tryz.underlying42 hi hz0 .i64 .i64 0 2 (by decide) (by decide) (by rw [hz2]; decide) (by decide)
        rw [hz1] at this
        refine this.trans ?_
        have e : madeCells (Value.string ⟨#[]⟩).cells (Int.toNat 2 * 1) = #[.string ⟨#[]⟩, .string ⟨#[]⟩] := by kernel_rfl
        rw [e]
        rfl
      have hst := run_storeCells_new (P := Tryz.prog) (w.alloc (.cells #[.string ⟨#[]⟩, .string ⟨#[]⟩] 9)) 132 Tryz.zeroCells132 (rowQ0 w.heap.size) (by rw [rowQ0_size]; kernel_rfl) (by rw [rowQ0_size]; kernel_rfl) (rowQ0_all _)
      rw [World.size_alloc, ← rowQ0_eq] at hst
      go_wp2_with fail
      clear hst hmk
      have qT : ∀ (w : World) (a : Option Addr) (n c n' c' : Nat), (binOp .eql 45 (.slice a n c) (.slice none n' c')).run Tryz.prog w = .ok (.bool a.isNone) w := fun w a n c n' c' => Lib.run_eql_slice_nil w _ _ a n c n' c' Tryz.underlying45
      have hrow0 := rowQ0_at (w.alloc (.cells #[.string ⟨#[]⟩, .string ⟨#[]⟩] 9)) w.heap.size
      rw [World.size_alloc] at hrow0
      have hB0 : Below w.heap.size w ((w.alloc (.cells #[.string ⟨#[]⟩, .string ⟨#[]⟩] 9)).alloc (.cells (rowQ0 w.heap.size) 132)) := ((Below.refl _ _).alloc (Nat.le_refl _) _).alloc (by simp) _
      have ht0 : ((w.alloc (.cells #[.string ⟨#[]⟩, .string ⟨#[]⟩] 9)).alloc (.cells (rowQ0 w.heap.size) 132)).ownsRow w.heap.size 9 1 (.slice (some ⟨w.heap.size, 0, none⟩) 0 2) 0 [] :=
        ⟨rfl, .inr ⟨w.heap.size, 2, #[.string ⟨#[]⟩, .string ⟨#[]⟩], rfl, Nat.le_refl _, (Lib.alloc_old _ _ _ (by simp)).trans (heap_alloc_new w _), by decide, by decide, rfl, rfl⟩⟩
      obtain ⟨i0, hi, hz0, hz1, hz2⟩ := info_parts info9
      go_loopw [12] (QS w.heap.size w) (fun i _ => (intOf i + 2).toNat)
      case atStart => exact .inl ⟨rfl, hrow0, ht0, hB0⟩
      case round =>
        clear hrow0 hB0 ht0
        have k0 : ∀ hh : 0 < (⟨#[34]⟩ : ByteArray).size, (⟨#[34]⟩ : ByteArray)[0]'hh = 34 := fun _ => rfl
        have k1 : ∀ hh : 0 < (⟨#[92]⟩ : ByteArray).size, (⟨#[92]⟩ : ByteArray)[0]'hh = 92 := fun _ => rfl
        rcases hrel with ⟨rfl, hrow, ht, hB1⟩ | ⟨rfl, p1, q1, hrow, ht, hr1, hp1, hB1⟩ | ⟨rfl, p1, q1, p2, q2, hrow, ht, hr1, hr2, hp1, hp2, hB1⟩
        · have d0 := pw_cell_below hB1 c0
          have d1 := pw_cell_below hB1 c1
          have d2 := pw_cell_below hB1 c2
          have d3 := pw_cell_below hB1 c3
          have e92 : wr.cell? ⟨w.heap.size + 1, 92, none⟩ = some (.slice none 0 0) := (hrow 92 (by decide)).1
          have e256 : wr.cell? ⟨w.heap.size + 1, 256, none⟩ = some (.slice (some ⟨w.heap.size, 0, none⟩) 0 2) := (hrow 256 (by decide)).1
          have f256 := (hrow 256 (by decide)).2
          have f92 := (hrow 92 (by decide)).2
          have hc1 : (convert 45 9 (.slice (some ⟨wr.heap.size, 0, none⟩) 1 1)).run Tryz.prog (wr.alloc (.cells #[.int .u8 92] 5)) = .ok (.string ⟨#[92]⟩) (wr.alloc (.cells #[.int .u8 92] 5)) := conv_one wr 92 (by decide)
          have hcv : ∀ W : World, (convert 9 45 (.string ⟨#[92, 92]⟩)).run Tryz.prog W = .ok (.slice (some ⟨W.heap.size, 0, none⟩) 2 (grownCap W 2 0 5)) (Lib.bytesWorld W 5 ⟨#[92, 92]⟩) := fun W => Lib.run_convert_string_bytes W 9 45 5 ⟨#[92, 92]⟩ Tryz.underlying9 Tryz.underlying45 Tryz.underlying5
          go_wp2_with (at_builtin; refine wpList_append_fits _ rfl _ _ 42 rfl w.heap.size 9 i0 1 Tryz.underlying42 hi hz1 w.heap.size 0 2 [] rfl ((ht.alloc _).alloc _) ⟨wr.heap.size + 1, 0, none⟩ 1 1 [.string ⟨#[92]⟩] rfl rfl ?c1 ?c2 (by decide) ?_)
          case c1 =>
            intro j u hj
            match j, hj with
            | 0, hj => simp at hj; subst hj; rw [add_plain, show wr.heap.size + 1 = (wr.alloc (.cells #[.int .u8 92] 5)).heap.size by simp]; exact (World.cell?_alloc_new _ _ _ _).trans rfl
          case c2 => intro u hu; simp at hu; subst hu; rfl
          intro w2 hown2 hg2
          have hr2 := ((hrow.alloc _).alloc _).grown hg2 (by omega)
          have e256' : w2.cell? ⟨w.heap.size + 1, 256, none⟩ = some (.slice (some ⟨w.heap.size, 0, none⟩) 0 2) := (hr2 256 (by decide)).1
          have f256' := (hr2 256 (by decide)).2
          have hr3 := (hr2.set256 1).bytes ⟨#[92, 92]⟩
          have e92' := (hr3 92 (by decide)).1
          have f92' := (hr3 92 (by decide)).2
          have HR3 := Aside0.mk hr3
          have HO2 := Aside0.mk hown2
          have HG2 := Aside0.mk hg2
          clear hr2 hr3 hown2 hg2 e256 f256 e92 f92 hc1
          go_wp2_with fail
          obtain ⟨n1, n2, n3, n4, n5⟩ := stage_next (by have := World.block_lt_of_cell? wr _ (hrow 0 (by decide)).1; exact this) hB1 (Nat.le_refl _) HO2.out HG2.out ⟨#[92, 92]⟩ (.slice (some ⟨w.heap.size, 0, none⟩) 1 2) (.slice (some ⟨w2.heap.size, 0, none⟩) 2 (grownCap (w2.setCell ⟨w.heap.size + 1, 256, none⟩ (.slice (some ⟨w.heap.size, 0, none⟩) 1 2)) 2 0 5)) 92
          refine ⟨.inr (.inl ⟨rfl, w2.heap.size, _, HR3.out.set92 _, n1, n2, n3, n4⟩), by simp [intOf]⟩
        · have d0 := pw_cell_below hB1 c0
          have d1 := pw_cell_below hB1 c1
          have d2 := pw_cell_below hB1 c2
          have d3 := pw_cell_below hB1 c3
          have e92 : wr.cell? ⟨w.heap.size + 1, 34, none⟩ = some (.slice none 0 0) := (hrow 34 (by decide)).1
          have e256 : wr.cell? ⟨w.heap.size + 1, 256, none⟩ = some (.slice (some ⟨w.heap.size, 0, none⟩) 1 2) := (hrow 256 (by decide)).1
          have f256 := (hrow 256 (by decide)).2
          have f92 := (hrow 34 (by decide)).2
          have hc1 : (convert 45 9 (.slice (some ⟨wr.heap.size, 0, none⟩) 1 1)).run Tryz.prog (wr.alloc (.cells #[.int .u8 34] 5)) = .ok (.string ⟨#[34]⟩) (wr.alloc (.cells #[.int .u8 34] 5)) := conv_one wr 34 (by decide)
          have hcv : ∀ W : World, (convert 9 45 (.string ⟨#[92, 34]⟩)).run Tryz.prog W = .ok (.slice (some ⟨W.heap.size, 0, none⟩) 2 (grownCap W 2 0 5)) (Lib.bytesWorld W 5 ⟨#[92, 34]⟩) := fun W => Lib.run_convert_string_bytes W 9 45 5 ⟨#[92, 34]⟩ Tryz.underlying9 Tryz.underlying45 Tryz.underlying5
          go_wp2_with (at_builtin; refine wpList_append_fits _ rfl _ _ 42 rfl w.heap.size 9 i0 1 Tryz.underlying42 hi hz1 w.heap.size 1 2 [.string ⟨#[92]⟩] rfl ((ht.alloc _).alloc _) ⟨wr.heap.size + 1, 0, none⟩ 1 1 [.string ⟨#[34]⟩] rfl rfl ?c1 ?c2 (by decide) ?_)
          case c1 =>
            intro j u hj
            match j, hj with
            | 0, hj => simp at hj; subst hj; rw [add_plain, show wr.heap.size + 1 = (wr.alloc (.cells #[.int .u8 34] 5)).heap.size by simp]; exact (World.cell?_alloc_new _ _ _ _).trans rfl
          case c2 => intro u hu; simp at hu; subst hu; rfl
          intro w2 hown2 hg2
          have hr2 := ((hrow.alloc _).alloc _).grown hg2 (by omega)
          have e256' : w2.cell? ⟨w.heap.size + 1, 256, none⟩ = some (.slice (some ⟨w.heap.size, 0, none⟩) 1 2) := (hr2 256 (by decide)).1
          have f256' := (hr2 256 (by decide)).2
          have hr3 := (hr2.set256 2).bytes ⟨#[92, 34]⟩
          have e92' := (hr3 34 (by decide)).1
          have f92' := (hr3 34 (by decide)).2
          have HR3 := Aside0.mk hr3
          have HO2 := Aside0.mk hown2
          have HG2 := Aside0.mk hg2
          clear hr2 hr3 hown2 hg2 e256 f256 e92 f92 hc1
          go_wp2_with fail
          obtain ⟨n1, n2, n3, n4, n5⟩ := stage_next (by have := World.block_lt_of_cell? wr _ (hrow 0 (by decide)).1; exact this) hB1 (Nat.le_refl _) HO2.out HG2.out ⟨#[92, 34]⟩ (.slice (some ⟨w.heap.size, 0, none⟩) 2 2) (.slice (some ⟨w2.heap.size, 0, none⟩) 2 (grownCap (w2.setCell ⟨w.heap.size + 1, 256, none⟩ (.slice (some ⟨w.heap.size, 0, none⟩) 2 2)) 2 0 5)) 34
          refine ⟨.inr (.inr ⟨rfl, p1, q1, w2.heap.size, _, HR3.out.set34 _, n1, n5 p1 2 _ hp1 (by decide) hr1, n2, hp1, n3, n4⟩), by simp [intOf]⟩
        · go_wp2_with fail
          go_ret
          have htl := ht.cellAt 0 (by decide)
          have htl1 := ht.cellAt 1 (by decide)
          exact ⟨w.heap.size + 1, rfl, ⟨w.heap.size, p1, q1, p2, q2, by omega, hrow, Nat.le_refl _, htl, htl1, by omega, hr1, by omega, hr2⟩, hB1⟩
end Go.Proofs.YtieompfmhnpnaaaGreat.H
namespace Go.Proofs.YtieompfmhnpnaaaGreat.H
open Go.RowKit Go.Proofs.YtieompfmhnpnaaaGreatW.PrintWords Go.Proofs.YtieompfmhnpnaaaGreatW.PrintLast Go.Proofs.YtieompfmhnpnaaaGreatW.PrintMore
set_option linter.unusedVariables false
set_option linter.unusedSimpArgs false
def escL (c : UInt8) : List UInt8 := if c = 34 then [92, 34] else if c = 92 then [92, 92] else [c]
def isEsc (c : UInt8) : Bool := c == 34 || c == 92
def cntE (l : List UInt8) : Nat := (l.filter isEsc).length
def escS (s : ByteArray) : ByteArray := mkB ((bl s).flatMap escL)
theorem escL_length (c : UInt8) : (escL c).length = 1 + (if isEsc c then 1 else 0) := by
  unfold escL isEsc
  by_cases h : c = 34
  · simp [h]
  · by_cases h2 : c = 92
    · simp [h2]
    · simp [h, h2]
theorem cntE_cons (c : UInt8) (l : List UInt8) : cntE (c :: l) = (if isEsc c then 1 else 0) + cntE l := by
  unfold cntE
  by_cases h : isEsc c = true
  · simp [h]; omega
  · simp [h]
theorem escL_flat (l : List UInt8) : (l.flatMap escL).length = l.length + cntE l := by
  induction l with
  | nil => rfl
  | cons c l ih => rw [List.flatMap_cons, List.length_append, ih, escL_length, cntE_cons, List.length_cons]; omega
theorem cntE_append (l m : List UInt8) : cntE (l ++ m) = cntE l + cntE m := by simp [cntE]
theorem cntE_le (l : List UInt8) : cntE l ≤ l.length := List.length_filter_le _ _
theorem cntE_two (l : List UInt8) : cntE l = l.count 92 + l.count 34 := by
  induction l with
  | nil => rfl
  | cons c l ih =>
    rw [cntE_cons, ih, List.count_cons, List.count_cons]
    unfold isEsc
    by_cases h : c = 34
    · subst h; simp; omega
    · by_cases h2 : c = 92
      · subst h2; simp; omega
      · simp [h, h2]
theorem cntE_zero {l : List UInt8} (h : cntE l = 0) : l.flatMap escL = l := by
  induction l with
  | nil => rfl
  | cons c l ih =>
    rw [cntE_cons] at h
    have h1 : isEsc c = false := by
      cases hc : isEsc c with
      | false => rfl
      | true => rw [hc] at h; simp at h
    rw [List.flatMap_cons, ih (by rw [h1] at h; simpa using h)]
    unfold escL isEsc at *
    simp at h1
    simp [h1.1, h1.2]
def escTo (s : ByteArray) (k : Nat) : List UInt8 := ((bl s).take k).flatMap escL
theorem escTo_succ (s : ByteArray) (k : Nat) (h : k < s.size) : escTo s (k + 1) = escTo s k ++ escL (byteAt s k) := by
  unfold escTo
  rw [take_byteAt s k h, List.flatMap_append]
  simp
theorem escTo_le (s : ByteArray) (k : Nat) : (escTo s k).length ≤ s.size + cntE (bl s) := by
  have h := escL_flat (bl s)
  rw [bl_length] at h
  have e : (bl s).flatMap escL = escTo s k ++ ((bl s).drop k).flatMap escL := by
    unfold escTo
    rw [← List.flatMap_append, List.take_append_drop]
  rw [e, List.length_append] at h
  omega
theorem escTo_all (s : ByteArray) : escTo s s.size = (bl s).flatMap escL := by
  unfold escTo
  rw [← bl_length, List.take_length]
def ints (l : List UInt8) : List Int := l.map fun c => (c.toNat : Int)
theorem ints_length (l : List UInt8) : (ints l).length = l.length := by simp [ints]
theorem ints_append (l m : List UInt8) : ints (l ++ m) = ints l ++ ints m := by simp [ints]
theorem ints_back (l : List UInt8) : strOfNums (ints l) = mkB l := byteInts_back l
def rowP (N : Nat) (pre : List Int) : List Int := pre ++ List.replicate (N - pre.length) 0
theorem rowP_length (N : Nat) (pre : List Int) (h : pre.length ≤ N) : (rowP N pre).length = N := by simp [rowP]; omega
theorem rowP_set (N : Nat) (pre : List Int) (v : Int) (h : pre.length < N) : (rowP N pre).set pre.length v = rowP N (pre ++ [v]) := by
  unfold rowP
  rw [List.set_append_right _ _ (Nat.le_refl _), Nat.sub_self]
  have e : N - pre.length = (N - (pre ++ [v]).length) + 1 := by simp; omega
  rw [e, List.replicate_succ]
  simp
theorem rowP_full (N : Nat) (pre : List Int) (h : pre.length = N) : rowP N pre = pre := by simp [rowP, h]
theorem rowP_nil (N : Nat) : rowP N [] = List.replicate N 0 := by simp [rowP]
set_option maxHeartbeats 1000000 in
set_option maxRecDepth 100000 in
theorem count_one (s : ByteArray) (c : UInt8) (w : World) :
    Calls Tryz.prog 160 #[.string s, .string ⟨#[c]⟩] w fun e w' => e = .returned (.int .i64 ((bl s).count c : Nat)) ∧ w' = w := by
  have k0 : ∀ hh : 0 < (⟨#[c]⟩ : ByteArray).size, (⟨#[c]⟩ : ByteArray)[0]'hh = c := fun _ => rfl
  have hc := c.toNat_lt
  have e1 : c.toNat.toUInt8 = c := by simp
  go_enter Tryz.func160, Tryz.ntmps160
  go_wp2_with fail
  rw [run_callFunc_extern Tryz.func162 (by kernel_rfl) (by kernel_rfl) (by kernel_rfl) (e := Extern.BytealgCount.count) (by kernel_rfl), Lib.run_countString]
  simp only [Result.andThen]
  rw [Oper.upon_value]
  go_wp2_with fail
  go_ret
  exact ⟨rfl, rfl⟩
theorem madeRow (W : World) (N : Nat) (hN : N ≤ maxLen) : RowB (W.alloc (.cells (madeCells #[.int .u8 0] N) 5)) W.heap.size N (rowP N []) := fun j hj => by
  have h := own_made (W := W) (base := 0) (e := 5) (k := .u8) N (Nat.zero_le _) hN
  have h1 := h.cellAt j (by omega)
  refine ⟨?_, h.frozenAt j⟩
  rw [h1, rowP_nil]
  simp [nums, List.getD, hj]
theorem make_bytes (W : World) (N : Nat) (hN : N ≤ 281474976710656) : (Instr.makeSlice 45 (.int .i64 (N : Int)) (.int .i64 (N : Int))).run Tryz.prog W = .ok (.slice (some ⟨W.heap.size, 0, none⟩) N N) (W.alloc (.cells (madeCells #[.int .u8 0] N) 5)) :=
  print_make 45 5 .u8 1 Tryz.underlying45 info5 (by decide) N (by omega) W
theorem run_neq_nil (w : World) (t e : TypeId) (a : Option Addr) (n c n' c' : Nat) (h : Tryz.prog.underlying t = some (.slice e)) :
    (binOp .neq t (.slice a n c) (.slice none n' c')).run Tryz.prog w = .ok (.bool (!a.isNone)) w := by
  simp only [binOp]
  simp [Op.equal, Op.maxDepth, Lib.run_equalIn_slice_nil w 9999 t e a n c n' c' h]
theorem copy_two (W : World) (g j N cap p c : Nat) (xs : List Int) (a b : Int) (hj : j + 2 ≤ N) (hg : RowB W g N xs) (hp : RowB W p 2 [a, b]) :
    (Builtin.copy_ #[45, 45] 3 #[.slice (some ⟨g, j, none⟩) (N - j) cap, .slice (some ⟨p, 0, none⟩) 2 c]).run Tryz.prog W =
      .ok (.int .i64 2) ((W.setCell ⟨g, j, none⟩ (.int .u8 a)).setCell ⟨g, j + 1, none⟩ (.int .u8 b)) := by
  have := run_copy_cells (P := Tryz.prog) W 45 45 3 5 g j (N - j) cap ⟨p, 0, none⟩ 2 c [.int .u8 a, .int .u8 b] Tryz.underlying45 (by kernel_rfl) (by have e : Nat.min 2 (N - j) = 2 := Nat.min_eq_left (by omega); rw [e]; rfl)
    (fun i v hv => by
      match i, hv with
      | 0, hv => simp at hv; subst hv; exact (hp 0 (by decide)).1
      | 1, hv => simp at hv; subst hv; exact (hp 1 (by decide)).1)
    (fun i hi => by simp at hi; rw [(hg (j + i) (by omega)).1]; rfl) (fun i hi => by simp at hi; exact (hg (j + i) (by omega)).2)
    (fun v hv => by simp at hv; rcases hv with rfl | rfl <;> rfl)
  exact this
set_option maxHeartbeats 1000000 in
set_option maxRecDepth 100000 in
theorem strReplace (B h : Nat) (s : ByteArray) (w : World) (hs : s.size ≤ 1099511627776) (hr : TabQ w B h) :
    Calls Tryz.prog 158 #[.pointer (some ⟨h, 0, none⟩), .string s] w fun e w' => e = .returned (.string (escS s)) ∧ Below w.heap.size w w' := by
  obtain ⟨t, p1, c1, p2, c2, hq, hrow, ht, t0, t1, hp1, hr1, hp2, hr2⟩ := hr
  have hle := cntE_le (bl s)
  rw [bl_length] at hle
  have e256 : w.cell? ⟨h, 256, none⟩ = some (.slice (some ⟨t, 0, none⟩) 2 2) := (hrow 256 (by decide)).1
  have e34 : w.cell? ⟨h, 34, none⟩ = some (.slice (some ⟨p2, 0, none⟩) 2 c2) := (hrow 34 (by decide)).1
  have e92 : w.cell? ⟨h, 92, none⟩ = some (.slice (some ⟨p1, 0, none⟩) 2 c1) := (hrow 92 (by decide)).1
  have qT : ∀ (w : World) (a : Option Addr) (n c n' c' : Nat), (binOp .neq 45 (.slice a n c) (.slice none n' c')).run Tryz.prog w = .ok (.bool (!a.isNone)) w := fun w a n c n' c' => run_neq_nil w 45 5 a n c n' c' Tryz.underlying45
  go_enter Tryz.func158, Tryz.ntmps158
  have hmx : Tryz.prog.follows .mixedOrders = true := by kernel_rfl
  have HLB := Lib.hid (bl_length s)
  have HTWO := Lib.hid (cntE_two (bl s))
  by_cases h16 : 16 ≤ s.size
  · have h16I : (16 : Int) ≤ (s.size : Int) := by omega
    go_wp2_with fail
    have h92' := List.count_le_length (a := (92 : UInt8)) (l := bl s)
    have h34' := List.count_le_length (a := (34 : UInt8)) (l := bl s)
    rw [HLB.out] at h92' h34'
    obtain ⟨n92, h92⟩ : ∃ n, (bl s).count 92 = n := ⟨_, rfl⟩
    obtain ⟨n34, h34⟩ : ∃ n, (bl s).count 34 = n := ⟨_, rfl⟩
    rw [h92] at h92'
    rw [h34] at h34'
    have htwo := HTWO.out
    rw [h92, h34] at htwo
    have HTW := Lib.hid htwo
    have H92 := Lib.hid h92
    have H34 := Lib.hid h34
    clear htwo h92 h34
    go_loopw [5, 6, 32] (fun n a i wr => ∃ (k c m : Nat), k ≤ 2 ∧ c = (if k = 0 then 0 else if k = 1 then n92 else n92 + n34) ∧ n = .int .i64 ((s.size + c : Nat) : Int) ∧ a = .bool (decide (0 < c)) ∧ i = .int .i64 (k : Int) ∧ wr = w.drewN m) (fun _ _ i _ => (2 - intOf i).toNat)
    case atStart => exact ⟨0, 0, 0, by omega, rfl, rfl, rfl, rfl, rfl⟩
    case round =>
      obtain ⟨k, c, m, hk, hc, rfl, rfl, rfl, rfl⟩ := hrel
      obtain rfl | rfl | rfl : k = 0 ∨ k = 1 ∨ k = 2 := by omega
      · obtain rfl : c = 0 := by simpa using hc
        clear hc hk
        simp only [Nat.add_zero]
        have k0 : ∀ hh : 0 < (⟨#[92]⟩ : ByteArray).size, (⟨#[92]⟩ : ByteArray)[0]'hh = 92 := fun _ => rfl
        by_cases z : n92 = 0
        · subst z
          go_wp2_with fail
          refine (count_one s 92 _).mono ?_
          rintro e w1 ⟨rfl, rfl⟩
          rw [H92.out]
          go_wp2_with fail
          go_roundw
          case rel => exact ⟨1, 0, m, by omega, rfl, rfl, rfl, rfl, rfl⟩
          case measure => simp [intOf]
        · have zI : ¬ ((n92 : Int) = 0) := by omega
          have zB : ((n92 : Int) != 0) = true := by simpa using z
          go_wp2_with fail
          refine (count_one s 92 _).mono ?_
          rintro e w1 ⟨rfl, rfl⟩
          rw [H92.out]
          go_wp2_with fail
          go_region
          go_wp2_with fail
          go_roundw
          case rel => exact ⟨1, n92, m + 1, by omega, rfl, by simp, by simp; omega, rfl, rfl⟩
          case measure => simp [intOf]
      · obtain rfl : c = n92 := by simpa using hc
        clear hc hk
        have k0 : ∀ hh : 0 < (⟨#[34]⟩ : ByteArray).size, (⟨#[34]⟩ : ByteArray)[0]'hh = 34 := fun _ => rfl
        by_cases z : n34 = 0
        · subst z
          go_wp2_with fail
          refine (count_one s 34 _).mono ?_
          rintro e w1 ⟨rfl, rfl⟩
          rw [H34.out]
          go_wp2_with fail
          go_roundw
          case rel => exact ⟨2, c, m, by omega, rfl, rfl, rfl, rfl, rfl⟩
          case measure => simp [intOf]
        · have zI : ¬ ((n34 : Int) = 0) := by omega
          have zB : ((n34 : Int) != 0) = true := by simpa using z
          go_wp2_with fail
          refine (count_one s 34 _).mono ?_
          rintro e w1 ⟨rfl, rfl⟩
          rw [H34.out]
          go_wp2_with fail
          go_region
          go_wp2_with fail
          go_roundw
          case rel => exact ⟨2, c + n34, m + 1, by omega, rfl, by simp; omega, by simp; omega, rfl, rfl⟩
          case measure => simp [intOf]
      · obtain rfl : c = n92 + n34 := by simpa using hc
        rw [← HTW.out]
        clear hc hk
        generalize hcn : cntE (bl s) = cnt at *
        by_cases z : cnt = 0
        · subst z
          have HE := Lib.hid (cntE_zero hcn)
          clear hcn
          go_wp2_with fail
          go_ret
          refine ⟨?_, pw_below_drewN (Below.refl _ w) m⟩
          have : escS s = s := by unfold escS; rw [HE.out]
          rw [this]
          rfl
        · have dz : decide (0 < cnt) = true := by simp; omega
          rw [dz]
          obtain ⟨N, hN⟩ : ∃ N, s.size + cnt = N := ⟨_, rfl⟩
          rw [hN]
          have hmk := fun W => make_bytes W N (by omega)
          have hNle : N ≤ 2199023255552 := by omega
          have HCN := Lib.hid hcn
          have HNN := Lib.hid hN
          clear z dz hcn hN
          go_wp2_with fail
          have hrow0 := madeRow (w.drewN m) N (by unfold maxLen; omega)
          have hB0 : Below w.heap.size w ((w.drewN m).alloc (.cells (madeCells #[.int .u8 0] N) 5)) := (pw_below_drewN (Below.refl _ w) m).alloc (Nat.le_refl _) _
          rw [show (w.drewN m).heap.size = w.heap.size from rfl] at hrow0
          go_loopw [13, 14] (fun jv i wr => ∃ k : Nat, k ≤ s.size ∧ i = .int .i64 (k : Int) ∧ jv = .int .i64 ((escTo s k).length : Int) ∧ RowB wr w.heap.size N (rowP N (ints (escTo s k))) ∧ Below w.heap.size w wr) (fun _ i _ => s.size - (intOf i).toNat)
          case atStart => exact ⟨0, Nat.zero_le _, rfl, rfl, hrow0, hB0⟩
          case round =>
            clear hrow0 hB0
            obtain ⟨k, hk, rfl, rfl, hrb, hB1⟩ := hrel
            by_cases hlt : k < s.size
            · have hle1 := escTo_le s (k + 1)
              rw [HCN.out, HNN.out, escTo_succ s k hlt] at hle1
              have HSU := Lib.hid (escTo_succ s k hlt)
              obtain ⟨l, hl⟩ : ∃ l, escTo s k = l := ⟨_, rfl⟩
              rw [hl] at HSU hle1 hrb ⊢
              clear hl
              obtain ⟨j, hj⟩ : ∃ j, l.length = j := ⟨_, rfl⟩
              rw [hj]
              have HJ := Lib.hid hj
              have hjl : (ints l).length = j := by rw [ints_length]; exact hj
              by_cases c34 : byteAt s k = 34
              · have he : escL (byteAt s k) = [92, 34] := by rw [c34]; rfl
                have HE := Lib.hid he
                rw [he, List.length_append, hj] at hle1
                have hj2 : j + 2 ≤ N := by simpa using hle1
                have hj3 : j < N := by omega
                have hk0 : ∀ hh, s[k]'hh = 34 := fun hh => (byteAt_get s k hh).trans c34
                have ec1 := pw_cell_below hB1 e34
                have hplt : p2 < w.heap.size := World.block_lt_of_cell? w ⟨p2, 0, none⟩ (hr2 0 (by decide)).1
                have hcp := copy_two wr w.heap.size j N (N - j) p2 c2 _ 92 34 hj2 hrb (hr2.below hB1 hplt)
                have hcp2 := copy_two wr.drew w.heap.size j N (N - j) p2 c2 _ 92 34 hj2 hrb (hr2.below hB1.drew hplt)
                have hset := hrb.set (rowP_length N _ (by omega)) j hj3 92
                rw [← hjl, rowP_set N _ _ (by omega), hjl] at hset
                have hl1 : (ints l ++ [92]).length = j + 1 := by rw [List.length_append, hjl]; rfl
                have hset2 := hset.set (rowP_length N _ (by omega)) (j + 1) (by omega) 34
                rw [← hl1, rowP_set N _ _ (by omega), hl1] at hset2
                clear hl1
                have HSET := Aside0.mk hset2
                clear he hset hset2 c34 hrb hj hjl hle1
                go_wp2_with fail
                go_region
                go_wp2_with fail
                refine ⟨⟨k + 1, by omega, by go_num, ?_, ?_, ((hB1.setCell (p := ⟨w.heap.size, j, none⟩) (Nat.le_refl _) _).setCell (p := ⟨w.heap.size, j + 1, none⟩) (Nat.le_refl _) _).drew⟩, by simp [intOf]; omega⟩
                · rw [HSU.out, HE.out, List.length_append, HJ.out]; go_num
                · rw [HSU.out, HE.out, ints_append]
                  have e : ints [92, 34] = [92, 34] := rfl
                  have h3 := HSET.out
                  rw [List.append_assoc] at h3
                  exact h3
              · by_cases c92 : byteAt s k = 92
                · have he : escL (byteAt s k) = [92, 92] := by rw [c92]; rfl
                  have HE := Lib.hid he
                  rw [he, List.length_append, hj] at hle1
                  have hj2 : j + 2 ≤ N := by simpa using hle1
                  have hj3 : j < N := by omega
                  have hk0 : ∀ hh, s[k]'hh = 92 := fun hh => (byteAt_get s k hh).trans c92
                  have ec1 := pw_cell_below hB1 e92
                  have hplt : p1 < w.heap.size := World.block_lt_of_cell? w ⟨p1, 0, none⟩ (hr1 0 (by decide)).1
                  have hcp := copy_two wr w.heap.size j N (N - j) p1 c1 _ 92 92 hj2 hrb (hr1.below hB1 hplt)
                  have hcp2 := copy_two wr.drew w.heap.size j N (N - j) p1 c1 _ 92 92 hj2 hrb (hr1.below hB1.drew hplt)
                  have hset := hrb.set (rowP_length N _ (by omega)) j hj3 92
                  rw [← hjl, rowP_set N _ _ (by omega), hjl] at hset
                  have hl1 : (ints l ++ [92]).length = j + 1 := by rw [List.length_append, hjl]; rfl
                  have hset2 := hset.set (rowP_length N _ (by omega)) (j + 1) (by omega) 92
                  rw [← hl1, rowP_set N _ _ (by omega), hl1] at hset2
                  clear hl1
                  have HSET := Aside0.mk hset2
                  clear he hset hset2 c92 hrb hj hjl hle1
                  go_wp2_with fail
                  go_region
                  go_wp2_with fail
                  refine ⟨⟨k + 1, by omega, by go_num, ?_, ?_, ((hB1.setCell (p := ⟨w.heap.size, j, none⟩) (Nat.le_refl _) _).setCell (p := ⟨w.heap.size, j + 1, none⟩) (Nat.le_refl _) _).drew⟩, by simp [intOf]; omega⟩
                  · rw [HSU.out, HE.out, List.length_append, HJ.out]; go_num
                  · rw [HSU.out, HE.out, ints_append]
                    have e : ints [92, 92] = [92, 92] := rfl
                    have h3 := HSET.out
                    rw [List.append_assoc] at h3
                    exact h3
                · have hb256 : (byteAt s k).toNat < 256 := (byteAt s k).toNat_lt
                  have n34 : (byteAt s k).toNat ≠ 34 := fun e => c34 (by rw [← UInt8.toNat_inj]; exact e)
                  have n92 : (byteAt s k).toNat ≠ 92 := fun e => c92 (by rw [← UInt8.toNat_inj]; exact e)
                  have ec := (hrow (byteAt s k).toNat (by omega)).1
                  have ef : fQ t 2 (.slice (some ⟨p1, 0, none⟩) 2 c1) (.slice (some ⟨p2, 0, none⟩) 2 c2) (byteAt s k).toNat = .slice none 0 0 := by
                    unfold fQ
                    rw [if_neg (by omega), if_neg n92, if_neg n34]
                  rw [ef] at ec
                  have ec1 := pw_cell_below hB1 ec
                  have he : escL (byteAt s k) = [byteAt s k] := by unfold escL; rw [if_neg c34, if_neg c92]
                  have HE := Lib.hid he
                  rw [he, List.length_append, hj] at hle1
                  have hj2 : j < N := by simp at hle1; omega
                  have hk0 : ∀ hh, s[k]'hh = byteAt s k := fun hh => byteAt_get s k hh
                  have ej := (hrb j hj2).1
                  have fj := (hrb j hj2).2
                  have hset := hrb.set (rowP_length N _ (by omega)) j hj2 ((byteAt s k).toNat : Int)
                  rw [← hjl, rowP_set N _ _ (by omega), hjl] at hset
                  have HSET := Aside0.mk hset
                  clear ef ec he hset n34 n92 c34 c92 hrb hj hjl hle1 e34 e92 e256
                  go_wp2_with fail
                  refine ⟨⟨k + 1, by omega, by go_num, ?_, ?_, hB1.setCell (p := ⟨w.heap.size, j, none⟩) (Nat.le_refl _) _⟩, by simp [intOf]; omega⟩
                  · rw [HSU.out, HE.out, List.length_append, HJ.out]; go_num
                  · rw [HSU.out, HE.out, ints_append]; exact HSET.out
            · obtain rfl : k = s.size := by omega
              have hf := escTo_le s s.size
              rw [HCN.out, HNN.out] at hf
              have hfl : (ints (escTo s s.size)).length = N := by
                rw [ints_length, escTo_all, escL_flat, HLB.out, HCN.out, HNN.out]
              have hc := run_convert_bytes_arg (P := Tryz.prog) wr 45 5 Tryz.underlying45 Tryz.underlying5 w.heap.size 0 N N _ (rowP_length N (ints (escTo s s.size)) (by omega)) (fun i hi => by rw [Nat.zero_add]; exact (hrb i hi).1) 9 Tryz.underlying9
              rw [rowP_full N _ hfl, ints_back, escTo_all] at hc
              clear hf hfl hrb
              go_wp2_with fail
              go_ret
              exact ⟨rfl, hB1⟩
  · have h16I : ¬ (16 : Int) ≤ (s.size : Int) := by omega
    have h16J : (s.size : Int) < 16 := by omega
    go_wp2_with fail
    go_loopw [5, 6, 10] (fun n a i wr => ∃ (k m : Nat), k ≤ s.size ∧ n = .int .i64 ((s.size + cntE ((bl s).take k) : Nat) : Int) ∧ a = .bool (decide (0 < cntE ((bl s).take k))) ∧ i = .int .i64 (k : Int) ∧ wr = w.drewN m) (fun _ _ i _ => s.size - (intOf i).toNat)
    case atStart => exact ⟨0, 0, by omega, rfl, rfl, rfl, rfl⟩
    case round =>
      obtain ⟨k, m, hk, rfl, rfl, rfl, rfl⟩ := hrel
      by_cases hlt : k < s.size
      · have hsu : cntE ((bl s).take (k + 1)) = cntE ((bl s).take k) + (if isEsc (byteAt s k) then 1 else 0) := by
          rw [take_byteAt s k hlt, cntE_append, cntE_cons]
          rfl
        have hCk := cntE_le ((bl s).take k)
        rw [List.length_take] at hCk
        obtain ⟨C, hC⟩ : ∃ C, cntE ((bl s).take k) = C := ⟨_, rfl⟩
        rw [hC] at hsu hCk ⊢
        have hCk2 : C ≤ k := by omega
        have HC := Lib.hid hC
        clear hC hCk
        by_cases c34 : byteAt s k = 34
        · have hk0 : ∀ hh, s[k]'hh = 34 := fun hh => (byteAt_get s k hh).trans c34
          have HS2 := Lib.hid (hsu.trans (show C + (if isEsc (byteAt s k) then 1 else 0) = C + 1 by rw [c34]; rfl))
          clear hsu c34
          go_wp2_with fail
          go_roundw
          case rel => exact ⟨k + 1, m, by omega, by rw [HS2.out]; go_num, by rw [HS2.out]; simp, by go_num, rfl⟩
          case measure => simp [intOf]; omega
        by_cases c92 : byteAt s k = 92
        · have hk0 : ∀ hh, s[k]'hh = 92 := fun hh => (byteAt_get s k hh).trans c92
          have HS2 := Lib.hid (hsu.trans (show C + (if isEsc (byteAt s k) then 1 else 0) = C + 1 by rw [c92]; rfl))
          clear hsu c92
          go_wp2_with fail
          go_roundw
          case rel => exact ⟨k + 1, m, by omega, by rw [HS2.out]; go_num, by rw [HS2.out]; simp, by go_num, rfl⟩
          case measure => simp [intOf]; omega
        have hb256 : (byteAt s k).toNat < 256 := (byteAt s k).toNat_lt
        have n34 : (byteAt s k).toNat ≠ 34 := fun e => c34 (by rw [← UInt8.toNat_inj]; exact e)
        have n92 : (byteAt s k).toNat ≠ 92 := fun e => c92 (by rw [← UInt8.toNat_inj]; exact e)
        have ec := (hrow (byteAt s k).toNat (by omega)).1
        have ef : fQ t 2 (.slice (some ⟨p1, 0, none⟩) 2 c1) (.slice (some ⟨p2, 0, none⟩) 2 c2) (byteAt s k).toNat = .slice none 0 0 := by
          unfold fQ
          rw [if_neg (by omega), if_neg n92, if_neg n34]
        rw [ef] at ec
        have hk0 : ∀ hh, s[k]'hh = byteAt s k := fun hh => byteAt_get s k hh
        have HS2 := Lib.hid (hsu.trans (show C + (if isEsc (byteAt s k) then 1 else 0) = C by
          have : isEsc (byteAt s k) = false := by unfold isEsc; simp [c34, c92]
          rw [this]; rfl))
        clear hsu c34 c92 n34 n92 ef e34 e92 e256
        go_wp2_with fail
        go_roundw
        case rel => exact ⟨k + 1, m, by omega, by rw [HS2.out], by rw [HS2.out], by go_num, rfl⟩
        case measure => simp [intOf]; omega
      · obtain rfl : k = s.size := by omega
        have htk : (bl s).take s.size = bl s := by rw [← HLB.out, List.take_length]
        rw [htk]
        clear htk
        generalize hcn : cntE (bl s) = cnt at *
        by_cases z : cnt = 0
        · subst z
          have HE := Lib.hid (cntE_zero hcn)
          clear hcn
          go_wp2_with fail
          go_ret
          refine ⟨?_, pw_below_drewN (Below.refl _ w) m⟩
          have : escS s = s := by unfold escS; rw [HE.out]
          rw [this]
          rfl
        · have dz : decide (0 < cnt) = true := by simp; omega
          rw [dz]
          obtain ⟨N, hN⟩ : ∃ N, s.size + cnt = N := ⟨_, rfl⟩
          rw [hN]
          have hmk := fun W => make_bytes W N (by omega)
          have hNle : N ≤ 2199023255552 := by omega
          have HCN := Lib.hid hcn
          have HNN := Lib.hid hN
          clear z dz hcn hN
          go_wp2_with fail
          have hrow0 := madeRow (w.drewN m) N (by unfold maxLen; omega)
          have hB0 : Below w.heap.size w ((w.drewN m).alloc (.cells (madeCells #[.int .u8 0] N) 5)) := (pw_below_drewN (Below.refl _ w) m).alloc (Nat.le_refl _) _
          rw [show (w.drewN m).heap.size = w.heap.size from rfl] at hrow0
          go_loopw [13, 14] (fun jv i wr => ∃ k : Nat, k ≤ s.size ∧ i = .int .i64 (k : Int) ∧ jv = .int .i64 ((escTo s k).length : Int) ∧ RowB wr w.heap.size N (rowP N (ints (escTo s k))) ∧ Below w.heap.size w wr) (fun _ i _ => s.size - (intOf i).toNat)
          case atStart => exact ⟨0, Nat.zero_le _, rfl, rfl, hrow0, hB0⟩
          case round =>
            clear hrow0 hB0
            obtain ⟨k, hk, rfl, rfl, hrb, hB1⟩ := hrel
            by_cases hlt : k < s.size
            · have hle1 := escTo_le s (k + 1)
              rw [HCN.out, HNN.out, escTo_succ s k hlt] at hle1
              have HSU := Lib.hid (escTo_succ s k hlt)
              obtain ⟨l, hl⟩ : ∃ l, escTo s k = l := ⟨_, rfl⟩
              rw [hl] at HSU hle1 hrb ⊢
              clear hl
              obtain ⟨j, hj⟩ : ∃ j, l.length = j := ⟨_, rfl⟩
              rw [hj]
              have HJ := Lib.hid hj
              have hjl : (ints l).length = j := by rw [ints_length]; exact hj
              by_cases c34 : byteAt s k = 34
              · have he : escL (byteAt s k) = [92, 34] := by rw [c34]; rfl
                have HE := Lib.hid he
                rw [he, List.length_append, hj] at hle1
                have hj2 : j + 2 ≤ N := by simpa using hle1
                have hj3 : j < N := by omega
                have hk0 : ∀ hh, s[k]'hh = 34 := fun hh => (byteAt_get s k hh).trans c34
                have ec1 := pw_cell_below hB1 e34
                have hplt : p2 < w.heap.size := World.block_lt_of_cell? w ⟨p2, 0, none⟩ (hr2 0 (by decide)).1
                have hcp := copy_two wr w.heap.size j N (N - j) p2 c2 _ 92 34 hj2 hrb (hr2.below hB1 hplt)
                have hcp2 := copy_two wr.drew w.heap.size j N (N - j) p2 c2 _ 92 34 hj2 hrb (hr2.below hB1.drew hplt)
                have hset := hrb.set (rowP_length N _ (by omega)) j hj3 92
                rw [← hjl, rowP_set N _ _ (by omega), hjl] at hset
                have hl1 : (ints l ++ [92]).length = j + 1 := by rw [List.length_append, hjl]; rfl
                have hset2 := hset.set (rowP_length N _ (by omega)) (j + 1) (by omega) 34
                rw [← hl1, rowP_set N _ _ (by omega), hl1] at hset2
                clear hl1
                have HSET := Aside0.mk hset2
                clear he hset hset2 c34 hrb hj hjl hle1
                go_wp2_with fail
                go_region
                go_wp2_with fail
                refine ⟨⟨k + 1, by omega, by go_num, ?_, ?_, ((hB1.setCell (p := ⟨w.heap.size, j, none⟩) (Nat.le_refl _) _).setCell (p := ⟨w.heap.size, j + 1, none⟩) (Nat.le_refl _) _).drew⟩, by simp [intOf]; omega⟩
                · rw [HSU.out, HE.out, List.length_append, HJ.out]; go_num
                · rw [HSU.out, HE.out, ints_append]
                  have e : ints [92, 34] = [92, 34] := rfl
                  have h3 := HSET.out
                  rw [List.append_assoc] at h3
                  exact h3
              · by_cases c92 : byteAt s k = 92
                · have he : escL (byteAt s k) = [92, 92] := by rw [c92]; rfl
                  have HE := Lib.hid he
                  rw [he, List.length_append, hj] at hle1
                  have hj2 : j + 2 ≤ N := by simpa using hle1
                  have hj3 : j < N := by omega
                  have hk0 : ∀ hh, s[k]'hh = 92 := fun hh => (byteAt_get s k hh).trans c92
                  have ec1 := pw_cell_below hB1 e92
                  have hplt : p1 < w.heap.size := World.block_lt_of_cell? w ⟨p1, 0, none⟩ (hr1 0 (by decide)).1
                  have hcp := copy_two wr w.heap.size j N (N - j) p1 c1 _ 92 92 hj2 hrb (hr1.below hB1 hplt)
                  have hcp2 := copy_two wr.drew w.heap.size j N (N - j) p1 c1 _ 92 92 hj2 hrb (hr1.below hB1.drew hplt)
                  have hset := hrb.set (rowP_length N _ (by omega)) j hj3 92
                  rw [← hjl, rowP_set N _ _ (by omega), hjl] at hset
                  have hl1 : (ints l ++ [92]).length = j + 1 := by rw [List.length_append, hjl]; rfl
                  have hset2 := hset.set (rowP_length N _ (by omega)) (j + 1) (by omega) 92
                  rw [← hl1, rowP_set N _ _ (by omega), hl1] at hset2
                  clear hl1
                  have HSET := Aside0.mk hset2
                  clear he hset hset2 c92 hrb hj hjl hle1
                  go_wp2_with fail
                  go_region
                  go_wp2_with fail
                  refine ⟨⟨k + 1, by omega, by go_num, ?_, ?_, ((hB1.setCell (p := ⟨w.heap.size, j, none⟩) (Nat.le_refl _) _).setCell (p := ⟨w.heap.size, j + 1, none⟩) (Nat.le_refl _) _).drew⟩, by simp [intOf]; omega⟩
                  · rw [HSU.out, HE.out, List.length_append, HJ.out]; go_num
                  · rw [HSU.out, HE.out, ints_append]
                    have e : ints [92, 92] = [92, 92] := rfl
                    have h3 := HSET.out
                    rw [List.append_assoc] at h3
                    exact h3
                · have hb256 : (byteAt s k).toNat < 256 := (byteAt s k).toNat_lt
                  have n34 : (byteAt s k).toNat ≠ 34 := fun e => c34 (by rw [← UInt8.toNat_inj]; exact e)
                  have n92 : (byteAt s k).toNat ≠ 92 := fun e => c92 (by rw [← UInt8.toNat_inj]; exact e)
                  have ec := (hrow (byteAt s k).toNat (by omega)).1
                  have ef : fQ t 2 (.slice (some ⟨p1, 0, none⟩) 2 c1) (.slice (some ⟨p2, 0, none⟩) 2 c2) (byteAt s k).toNat = .slice none 0 0 := by
                    unfold fQ
                    rw [if_neg (by omega), if_neg n92, if_neg n34]
                  rw [ef] at ec
                  have ec1 := pw_cell_below hB1 ec
                  have he : escL (byteAt s k) = [byteAt s k] := by unfold escL; rw [if_neg c34, if_neg c92]
                  have HE := Lib.hid he
                  rw [he, List.length_append, hj] at hle1
                  have hj2 : j < N := by simp at hle1; omega
                  have hk0 : ∀ hh, s[k]'hh = byteAt s k := fun hh => byteAt_get s k hh
                  have ej := (hrb j hj2).1
                  have fj := (hrb j hj2).2
                  have hset := hrb.set (rowP_length N _ (by omega)) j hj2 ((byteAt s k).toNat : Int)
                  rw [← hjl, rowP_set N _ _ (by omega), hjl] at hset
                  have HSET := Aside0.mk hset
                  clear ef ec he hset n34 n92 c34 c92 hrb hj hjl hle1 e34 e92 e256
                  go_wp2_with fail
                  refine ⟨⟨k + 1, by omega, by go_num, ?_, ?_, hB1.setCell (p := ⟨w.heap.size, j, none⟩) (Nat.le_refl _) _⟩, by simp [intOf]; omega⟩
                  · rw [HSU.out, HE.out, List.length_append, HJ.out]; go_num
                  · rw [HSU.out, HE.out, ints_append]; exact HSET.out
            · obtain rfl : k = s.size := by omega
              have hf := escTo_le s s.size
              rw [HCN.out, HNN.out] at hf
              have hfl : (ints (escTo s s.size)).length = N := by
                rw [ints_length, escTo_all, escL_flat, HLB.out, HCN.out, HNN.out]
              have hc := run_convert_bytes_arg (P := Tryz.prog) wr 45 5 Tryz.underlying45 Tryz.underlying5 w.heap.size 0 N N _ (rowP_length N (ints (escTo s s.size)) (by omega)) (fun i hi => by rw [Nat.zero_add]; exact (hrb i hi).1) 9 Tryz.underlying9
              rw [rowP_full N _ hfl, ints_back, escTo_all] at hc
              clear hf hfl hrb
              go_wp2_with fail
              go_ret
              exact ⟨rfl, hB1⟩
end Go.Proofs.YtieompfmhnpnaaaGreat.H
namespace Go.Proofs.YtieompfmhnpnaaaGreat.H
open Go.RowKit Go.Proofs.YtieompfmhnpnaaaGreatW.PrintWords Go.Proofs.YtieompfmhnpnaaaGreatW.PrintLast Go.Proofs.YtieompfmhnpnaaaGreatW.PrintMore
set_option linter.unusedVariables false
set_option linter.unusedSimpArgs false
theorem TabQ.far {W : World} {B q g : Nat} (h : TabQ W B q) (hg : g < B) (j : Nat) (v : Value) : TabQ (W.setCell ⟨g, j, none⟩ v) B q := by
  obtain ⟨t, p1, c1, p2, c2, hq, hrow, ht, t0, t1, hp1, hr1, hp2, hr2⟩ := h
  have f : ∀ (b i : Nat), B ≤ b → (W.setCell ⟨g, j, none⟩ v).cell? ⟨b, i, none⟩ = W.cell? ⟨b, i, none⟩ := fun b i hb => World.cell?_setCell_far W ⟨g, j, none⟩ ⟨b, i, none⟩ v (show g ≠ b by omega)
  exact ⟨t, p1, c1, p2, c2, hq, hrow.far (by omega) j v, ht, (f t 0 ht).trans t0, (f t 1 ht).trans t1, hp1, hr1.far (by omega) j v, hp2, hr2.far (by omega) j v⟩
def TabledQ (B g : Nat) (w0 w : World) : Prop := ∃ h D, g < D ∧ w.cell? ⟨g, 3, none⟩ = some (.iface 133 (.pointer (some ⟨h, 0, none⟩))) ∧ TabQ w D h ∧ Below B w0 w
set_option maxRecDepth 100000 in
set_option maxHeartbeats 1000000 in
theorem buildOnce_strings (B g : Nat) (w : World) (hr : NewRep B w g 1 ⟨#[34]⟩ ⟨#[92, 34]⟩ ⟨#[92]⟩ ⟨#[92, 92]⟩) :
    Calls Tryz.prog 81 #[.pointer (some ⟨g, 0, none⟩)] w fun e w' => e = .returned (.tuple #[]) ∧ Held w' g ∧ TabledQ B g w w' := by
  have HR := Aside0.mk hr
  have hge := hr.ge
  have hlt : g < w.heap.size := World.block_lt_of_cell? w ⟨g, 0, none⟩ hr.done
  go_enter Tryz.func81, Tryz.ntmps81
  go_wp2_with fail
  refine (build_strings B g 1 w HR.out).mono ?_
  rintro e w1 ⟨h, rfl, hrow, hb⟩
  have d0 := pw_cell_below hb HR.out.done
  have d1 := pw_cell_below hb HR.out.state
  have d3 := pw_cell_below hb HR.out.r
  obtain ⟨k, cap, -, -, d4', -⟩ := HR.out.row
  have d4 := pw_cell_below hb d4'
  clear d4'
  have fz : ∀ j, w1.frozen? ⟨g, j, none⟩ = false := fun j => (hb.frozen (p := ⟨g, j, none⟩) hlt).trans (HR.out.fz j)
  have f3 := fz 3
  have f4 := fz 4
  have HROW := Aside0.mk hrow
  have HB := Aside0.mk hb
  have FZ := Aside0.mk fz
  clear hrow hb fz hr
  go_wp2_with fail
  go_end0
  have hBw : Below B w w1 := HB.out.mono (by omega)
  refine ⟨rfl, ⟨?_, ?_, ?_, ?_⟩, h, w.heap.size, hlt, ?_, ?_, (hBw.setCell (p := ⟨g, 3, none⟩) hge _).setCell (p := ⟨g, 4, none⟩) hge _⟩
  · exact (World.cell?_setCell_other _ ⟨g, 4, none⟩ ⟨g, 0, none⟩ _ (by simp)).trans ((World.cell?_setCell_other _ ⟨g, 3, none⟩ ⟨g, 0, none⟩ _ (by simp)).trans d0)
  · exact (World.cell?_setCell_other _ ⟨g, 4, none⟩ ⟨g, 1, none⟩ _ (by simp)).trans ((World.cell?_setCell_other _ ⟨g, 3, none⟩ ⟨g, 1, none⟩ _ (by simp)).trans d1)
  · rw [World.frozen?_setCell, World.frozen?_setCell]; exact FZ.out 0
  · rw [World.frozen?_setCell, World.frozen?_setCell]; exact FZ.out 1
  · exact (World.cell?_setCell_other _ ⟨g, 4, none⟩ ⟨g, 3, none⟩ _ (by simp)).trans (World.cell?_setCell_same _ _ _ d3)
  · exact (HROW.out.far hlt 3 _).far hlt 4 _
theorem method133 (a : Addr) (w : World) : (method 290 133 (.pointer (some a)) "Replace").run Tryz.prog w = .ok (158, .pointer (some a)) w := by kernel_rfl
set_option maxRecDepth 100000 in
set_option maxHeartbeats 1000000 in
theorem replace_strings (B g : Nat) (s : ByteArray) (w : World) (hs : s.size ≤ 1099511627776) (hB : B ≤ w.heap.size) (hr : NewRep B w g 0 ⟨#[34]⟩ ⟨#[92, 34]⟩ ⟨#[92]⟩ ⟨#[92, 92]⟩) :
    Calls Tryz.prog 53 #[.pointer (some ⟨g, 0, none⟩), .string s] w fun e w' => e = .returned (.string (escS s)) ∧ Below B w w' := by
  have hge := hr.ge
  have hlock := hr.locked 1
  have hfn := buildOnce_strings B g _ hlock
  have hfresh : Fresh w g := ⟨hr.done, hr.state, hr.fz 0, hr.fz 1⟩
  have HFN := Aside0.mk hfn
  clear hfn hlock hr
  go_enter Tryz.func53, Tryz.ntmps53
  go_wp2_with fail
  refine (do_first g w hfresh _ HFN.out).mono ?_
  rintro e w1 ⟨rfl, w2, ⟨h, D, hD, hc3, hrow, hb⟩, hw⟩
  have e3 : w1.cell? ⟨g, 3, none⟩ = some (.iface 133 (.pointer (some ⟨h, 0, none⟩))) := by
    rw [hw]
    exact (World.cell?_setCell_other _ ⟨g, 1, none⟩ ⟨g, 3, none⟩ _ (by simp)).trans ((World.cell?_setCell_other _ ⟨g, 0, none⟩ ⟨g, 3, none⟩ _ (by simp)).trans hc3)
  have hrow1 : TabQ w1 D h := by
    rw [hw]
    exact (TabQ.far (W := w2.drew) hrow hD 0 _).far hD 1 _
  have hb1 : Below B w w1 := by
    rw [hw]
    exact (((((Below.refl B w).setCell (p := ⟨g, 1, none⟩) hge _).trans hb).drew).setCell (p := ⟨g, 0, none⟩) hge _).setCell (p := ⟨g, 1, none⟩) hge _
  clear hw hrow hb hc3
  have HROW := Aside0.mk hrow1
  have HB := Aside0.mk hb1
  clear hrow1 hb1
  have hm := method133
  go_wp2_with fail
  refine (strReplace D h s w1 hs HROW.out).mono ?_
  rintro e w3 ⟨rfl, hb3⟩
  have HB3 := Aside0.mk hb3
  clear hb3
  go_wp2_with fail
  go_ret
  exact ⟨rfl, HB.out.trans (HB3.out.mono (by have := HB.out.size; omega))⟩
end Go.Proofs.YtieompfmhnpnaaaGreat.H
end
section
namespace Go.Proofs.YtieompfmhnpnaaaGreat.H
open Go.RowKit Go.Proofs.YtieompfmhnpnaaaGreatW.PrintWords Go.Proofs.YtieompfmhnpnaaaGreatW.PrintLast Go.Proofs.YtieompfmhnpnaaaGreatW.PrintMore
set_option linter.unusedVariables false
set_option linter.unusedSimpArgs false
def unqL : List UInt8 → List UInt8 → List UInt8 × Bool
  | [], _ => ([], false)
  | [c], acc => if c = 34 then (acc, true) else ([], false)
  | c :: d :: r, acc => if c = 34 then ([], false) else if c = 92 then unqL r (acc ++ [d]) else unqL (d :: r) (acc ++ [c])
def unqB (p : List UInt8 × Bool) : ByteArray × Bool := (mkB p.1, p.2)
theorem unq_l0 (s : ByteArray) (hs : s.size ≤ 1099511627776) : ∀ (n i : Nat) (acc : List UInt8), i + n = s.size → acc.length ≤ i →
    Ev (fun k => header_unquoted.l0 k s (ints acc) (i : Int)) (unqB (unqL ((bl s).drop i) acc))
  | 0, i, acc, hi, ha => by
    have hl := bl_length s
    refine Ev.step (fun k => by simp only [header_unquoted.l0]; rfl) ?_
    refine ev_no (by omega) ?_
    exact ev_done (by rw [List.drop_of_length_le (by omega)]; rfl)
  | 1, i, acc, hi, ha => by
    have hl := bl_length s
    refine Ev.step (fun k => by simp only [header_unquoted.l0]; rfl) ?_
    have hb := bt_byteAt s i (by omega)
    rw [drop_byteAt s i (by omega), List.drop_of_length_le (by omega)]
    refine ev_yes (by omega) ?_
    refine ev_yes (by omega) ?_
    simp only [hb, wrap_up i (by omega)]
    by_cases c34 : byteAt s i = 34
    · refine ev_yes (by rw [c34]; rfl) ?_
      refine ev_no (by omega) ?_
      refine ev_done ?_
      unfold unqL
      rw [if_pos c34, ints_back]
      rfl
    · have n34 : ¬ ((byteAt s i).toNat : Int) = 34 := fun e => c34 (by rw [← UInt8.toNat_inj]; show _ = 34; omega)
      refine ev_no n34 ?_
      have e1 : unqB (unqL [byteAt s i] acc) = ((⟨#[]⟩ : ByteArray), false) := by unfold unqL; rw [if_neg c34]; rfl
      rw [e1]
      by_cases c92 : byteAt s i = 92
      · refine ev_yes (by rw [c92]; rfl) ?_
        refine ev_yes (by omega) ?_
        exact Ev.now _
      · have n92 : ¬ ((byteAt s i).toNat : Int) = 92 := fun e => c92 (by rw [← UInt8.toNat_inj]; show _ = 92; omega)
        refine ev_no n92 ?_
        refine ev_yes (by rw [ints_length]; omega) ?_
        have := unq_l0 s hs 0 (i + 1) (acc ++ [byteAt s i]) (by omega) (by simp; omega)
        rw [List.drop_of_length_le (by omega), ints_append] at this
        exact this
  | n + 2, i, acc, hi, ha => by
    have hl := bl_length s
    refine Ev.step (fun k => by simp only [header_unquoted.l0]; rfl) ?_
    have hb := bt_byteAt s i (by omega)
    have hb1 := bt_byteAt s (i + 1) (by omega)
    rw [drop_byteAt s i (by omega), drop_byteAt s (i + 1) (by omega)]
    refine ev_yes (by omega) ?_
    refine ev_yes (by omega) ?_
    simp only [hb, wrap_up i (by omega), hb1, wrap_up (i + 1) (by omega)]
    by_cases c34 : byteAt s i = 34
    · refine ev_yes (by rw [c34]; rfl) ?_
      refine ev_yes (by omega) ?_
      refine ev_done ?_
      unfold unqL
      rw [if_pos c34]
      rfl
    · have n34 : ¬ ((byteAt s i).toNat : Int) = 34 := fun e => c34 (by rw [← UInt8.toNat_inj]; show _ = 34; omega)
      refine ev_no n34 ?_
      by_cases c92 : byteAt s i = 92
      · refine ev_yes (by rw [c92]; rfl) ?_
        refine ev_no (by omega) ?_
        refine ev_yes (by omega) ?_
        refine ev_yes (by omega) ?_
        refine ev_yes (by rw [ints_length]; omega) ?_
        have e1 : unqL (byteAt s i :: byteAt s (i + 1) :: (bl s).drop (i + 1 + 1)) acc = unqL ((bl s).drop (i + 1 + 1)) (acc ++ [byteAt s (i + 1)]) := by
          rw [unqL, if_neg c34, if_pos c92]
        rw [e1]
        have := unq_l0 s hs n (i + 1 + 1) (acc ++ [byteAt s (i + 1)]) (by omega) (by simp; omega)
        rw [ints_append] at this
        exact this
      · have n92 : ¬ ((byteAt s i).toNat : Int) = 92 := fun e => c92 (by rw [← UInt8.toNat_inj]; show _ = 92; omega)
        refine ev_no n92 ?_
        refine ev_yes (by rw [ints_length]; omega) ?_
        have e1 : unqL (byteAt s i :: byteAt s (i + 1) :: (bl s).drop (i + 1 + 1)) acc = unqL ((bl s).drop (i + 1)) (acc ++ [byteAt s i]) := by
          rw [unqL, if_neg c34, if_neg c92, ← drop_byteAt s (i + 1) (by omega)]
        rw [e1]
        have := unq_l0 s hs (n + 1) (i + 1) (acc ++ [byteAt s i]) (by omega) (by simp; omega)
        rw [ints_append] at this
        exact this
def valueS (s : ByteArray) : ByteArray × Bool :=
  if (bl s).head? = some 34 then unqB (unqL ((bl s).drop 1) [])
  else if (bl s).all (fun c => visB c && c != 34) then (s, !(bl s).isEmpty) else ((⟨#[]⟩ : ByteArray), false)
theorem pval_l0 (s : ByteArray) (hs : s.size ≤ 1099511627776) : ∀ (n i : Nat), i + n = s.size →
    Ev (fun k => header_paramValue.l0 k s (s.size : Int) (i : Int)) (if ((bl s).drop i).all (fun c => visB c && c != 34) then (s, !(bl s).isEmpty) else ((⟨#[]⟩ : ByteArray), false))
  | 0, i, hi => by
    have hl := bl_length s
    refine Ev.step (fun k => by simp only [header_paramValue.l0]; rfl) ?_
    refine ev_no (by omega) ?_
    refine ev_done ?_
    rw [List.drop_of_length_le (by omega), toList_bl]
    cases h : bl s <;> rfl
  | n + 1, i, hi => by
    refine Ev.step (fun k => by simp only [header_paramValue.l0]; rfl) ?_
    have hb := bt_byteAt s i (by omega)
    refine ev_yes (by omega) ?_
    refine ev_yes (by omega) ?_
    refine ev_yes (by omega) ?_
    simp only [hb, visible_at, Option.bind_some]
    rw [drop_byteAt s i (by omega), List.all_cons]
    by_cases hv : visB (byteAt s i) = true
    · simp only [hv, if_true, Bool.true_and]
      by_cases c34 : byteAt s i = 34
      · have h2 : (byteAt s i != 34) = false := by rw [c34]; rfl
        rw [h2]
        refine ev_yes (by rw [c34]; rfl) ?_
        simp only [Bool.false_and]
        exact Ev.now _
      · have n34 : ¬ ((byteAt s i).toNat : Int) = 34 := fun e => c34 (by rw [← UInt8.toNat_inj]; show _ = 34; omega)
        have h2 : (byteAt s i != 34) = true := by simpa using c34
        rw [h2]
        refine ev_no n34 ?_
        simp only [Bool.true_and]
        rw [wrap_up i (by omega)]
        exact pval_l0 s hs n (i + 1) (by omega)
    · have hv' : visB (byteAt s i) = false := by simpa using hv
      simp only [hv', Bool.false_and]
      exact Ev.now _
theorem prefix_34 (s : ByteArray) (hs : s.size ≤ 1099511627776) : strings_HasPrefix.f s (⟨#[34]⟩ : ByteArray) = some (decide ((bl s).head? = some 34)) := by
  unfold strings_HasPrefix.f stringslite_HasPrefix.f
  have e1 : (⟨#[34]⟩ : ByteArray).size = 1 := rfl
  have e2 : (⟨#[34]⟩ : ByteArray).toList = [34] := by rw [toList_bl]
  rw [e1, e2]
  have hl := bl_length s
  by_cases h : 1 ≤ s.size
  · have q1 : (s.size : Int) ≥ ((1 : Nat) : Int) := by omega
    have q2 : (0 : Int) ≤ ((1 : Nat) : Int) := by omega
    have q3 : ((1 : Nat) : Int) ≤ (s.size : Int) := by omega
    simp only [if_pos q1, if_pos q2, if_pos q3, Int.toNat_natCast, Option.bind_some]
    congr 1
    rw [toList_bl, bl_extract]
    have hd := drop_byteAt s 0 (by omega)
    rw [List.drop_zero] at hd
    rw [hd]
    simp
    rw [Bool.eq_iff_iff]
    simp
  · have q1 : ¬ (s.size : Int) ≥ ((1 : Nat) : Int) := by omega
    simp only [if_neg q1]
    have : bl s = [] := List.eq_nil_of_length_eq_zero (by omega)
    rw [this]
    rfl
theorem value_ev (s : ByteArray) (hs : s.size ≤ 1099511627776) : Ev (fun k => header_paramValue.f k s) (valueS s) := by
  unfold header_paramValue.f valueS
  simp only [prefix_34 s hs, Option.bind_some]
  by_cases h : (bl s).head? = some 34
  · simp only [h, decide_true, if_true]
    have hl : 1 ≤ s.size := by
      rw [← bl_length]
      cases hb : bl s with
      | nil => rw [hb] at h; cases h
      | cons _ _ => simp
    have := unq_l0 s hs (s.size - 1) 1 [] (by omega) (by simp)
    have h2 : Ev (fun k => header_unquoted.f k s) (unqB (unqL ((bl s).drop 1) [])) := by
      unfold header_unquoted.f
      exact this
    exact Ev.bind h2 (ev_done rfl)
  · simp only [h, decide_false, Bool.false_eq_true, if_false]
    have := pval_l0 s hs s.size 0 (by omega)
    simpa using this
end Go.Proofs.YtieompfmhnpnaaaGreat.H
end
section
namespace Go.Proofs.YtieompfmhnpnaaaGreat.H
open Go.RowKit Go.Proofs.YtieompfmhnpnaaaGreatW.PrintWords Go.Proofs.YtieompfmhnpnaaaGreatW.PrintLast Go.Proofs.YtieompfmhnpnaaaGreatW.PrintMore
attribute [local go_sem] max2_int min2_int max_two min_two max_three min_three max_four min_four
set_option linter.unusedVariables false
set_option linter.unusedSimpArgs false
def header_isToken.l0 : Nat → ByteArray → Int → Int → Option (Bool)
  | 0, _, _, _ => none
  | k + 1, x0, x5, x6 => if x6 < x5 then (if 0 ≤ x6 then (if x6 < (x0.size : Int) then ((header_visible.f (bt x0 x6)).bind fun t461 => (if t461 = true then ((strings_IndexByte.f (⟨#[40, 41, 60, 62, 64, 44, 59, 58, 92, 34, 47, 91, 93, 63, 61]⟩ : ByteArray) (bt x0 x6)).bind fun t462 => (if t462 ≥ 0 then (some false) else (header_isToken.l0 k x0 x5 (wrap64 (x6 + 1))))) else (some false))) else (none)) else (none)) else (some (x0.toList != ([] : List UInt8)))
def header_isToken.f (k : Nat) (a0 : ByteArray) : Option (Bool) := header_isToken.l0 k a0 (a0.size : Int) 0
theorem header_isToken.mono_l : ∀ k, (∀ y0 y1 y2, LeO (header_isToken.l0 k y0 y1 y2) (header_isToken.l0 (k + 1) y0 y1 y2))
  | 0 => fun _ _ _ r h => by simp [header_isToken.l0] at h
  | k + 1 => by
    have ih0 := header_isToken.mono_l k
    · intro y0 y1 y2
      unfold header_isToken.l0
      repeat' first
      | (with_reducible exact ih0 _ _ _)
      | (with_reducible exact LeO.refl _)
      | (with_reducible exact LeO.none _)
      | (with_reducible refine LeO.ite ?_ ?_)
      | (with_reducible refine LeO.bind ?_ (fun _ => ?_))
      | exact ih0 _ _ _
      | exact LeO.none _
      | refine LeO.ite ?_ ?_
      | refine LeO.bind ?_ (fun _ => ?_)
theorem header_isToken.mono : ∀ a0 k, LeO (header_isToken.f k a0) (header_isToken.f (k + 1) a0) := by
  intro a0 k
  have ih0 := header_isToken.mono_l k
  unfold header_isToken.f
  repeat' first
      | (with_reducible exact ih0 _ _ _)
      | (with_reducible exact LeO.refl _)
      | (with_reducible exact LeO.none _)
      | (with_reducible refine LeO.ite ?_ ?_)
      | (with_reducible refine LeO.bind ?_ (fun _ => ?_))
      | exact ih0 _ _ _
      | exact LeO.none _
      | refine LeO.ite ?_ ?_
      | refine LeO.bind ?_ (fun _ => ?_)
set_option maxHeartbeats 8000000 in
set_option maxRecDepth 100000 in
theorem header_isToken.calls (k : Nat) (a0 : ByteArray) (r : Bool) (w : World) (h : header_isToken.f k a0 = some r) :
    Calls Tryz.prog 41 #[.string a0] w fun e w' => e = .returned (.bool r) ∧ Drawn0 w w' := by
  have H : (header_isToken.l0 k a0 (a0.size : Int) 0) = some r := h
  clear h
  have H' := Aside0.mk H
  clear H
  go_enter Tryz.func41, Tryz.ntmps41
  go_wp2
  go_loopg [6] k (fun kq v6 w' => ∃ (x6_1 : Int), v6 = .int .i64 x6_1 ∧ Aside0 (header_isToken.l0 kq a0 (a0.size : Int) x6_1 = some r) ∧ Aside0 (kq ≤ k) ∧ Drawn0 w w')
  case atStart => exact ⟨(0), (by first | rfl | (simp; done) | (simp [*]; done)), H', ⟨Nat.le_refl _⟩, by repeat (first | exact Drawn0.refl _ | apply Drawn0.step)⟩
  case round =>
    clear H'
    obtain ⟨x6_1, rfl, HA, HK1, ⟨m1, rfl⟩⟩ := hrel
    cases gk with
    | zero => exact absurd HA.out (by simp [header_isToken.l0])
    | succ k1 =>
      have H := HA.out
      clear HA
      simp only [header_isToken.l0] at H
      by_cases c2 : x6_1 < (a0.size : Int)
      · rw [if_pos c2] at H
        have c2b0 : decide (x6_1 < (a0.size : Int)) = true := decide_eq_true c2
        clear c2
        by_cases c3 : 0 ≤ x6_1
        · rw [if_pos c3] at H
          have c3b0 : decide (0 ≤ x6_1) = true := decide_eq_true c3
          clear c3
          by_cases c4 : x6_1 < (a0.size : Int)
          · rw [if_pos c4] at H
            have c4b0 : decide (x6_1 < (a0.size : Int)) = true := decide_eq_true c4
            clear c4
            replace H := Option.bind_eq_some_iff.mp H
            obtain ⟨t461, A60, H⟩ := H
            replace H : (if t461 = true then ((strings_IndexByte.f (⟨#[40, 41, 60, 62, 64, 44, 59, 58, 92, 34, 47, 91, 93, 63, 61]⟩ : ByteArray) (bt a0 x6_1)).bind fun t462 => (if t462 ≥ 0 then (some false) else (header_isToken.l0 k1 a0 (a0.size : Int) (wrap64 (x6_1 + 1))))) else (some false)) = some r := H
            have A6 := Aside0.mk A60
            clear A60
            by_cases c7 : t461 = true
            · subst c7
              have H1 : ((strings_IndexByte.f (⟨#[40, 41, 60, 62, 64, 44, 59, 58, 92, 34, 47, 91, 93, 63, 61]⟩ : ByteArray) (bt a0 x6_1)).bind fun t462 => (if t462 ≥ 0 then (some false) else (header_isToken.l0 k1 a0 (a0.size : Int) (wrap64 (x6_1 + 1))))) = some r := by rw [if_pos rfl] at H; exact H
              clear H
              have H := H1
              clear H1
              replace H := Option.bind_eq_some_iff.mp H
              obtain ⟨t462, A90, H⟩ := H
              replace H : (if t462 ≥ 0 then (some false) else (header_isToken.l0 k1 a0 (a0.size : Int) (wrap64 (x6_1 + 1)))) = some r := H
              have A9 := Aside0.mk A90
              clear A90
              by_cases c10 : t462 ≥ 0
              · rw [if_pos c10] at H
                have c10b0 : decide (0 ≤ t462) = true := decide_eq_true c10
                clear c10
                obtain rfl := Option.some.inj H
                have p5 : 0 ≤ (x6_1 : Int) := of_decide_eq_true (by first | (with_reducible assumption) | assumption)
                have q5 : x6_1 < (a0.size : Int) := of_decide_eq_true (by first | (with_reducible assumption) | assumption)
                have hx5 := bt_at a0 x6_1
                replace p5 := eq_true p5
                replace q5 := eq_true q5
                go_wp2_with (first | ((with_reducible refine gate_callee (f := 72) rfl ?_); refine goesL_ (some 12) rfl rfl Tryz.func72 (by kernel_rfl) rfl #[.int .u8 (bt a0 x6_1)] rfl (by (try simp only [List.map_toArray, List.map_cons, List.map_nil]); first | done | rfl | (simp only [List.length_drop, List.length_take]; rfl)) ?_; (with_reducible refine (header_visible.calls (bt a0 x6_1) true _ A6.out).mono ?_); rintro e w' ⟨rfl, ⟨nd, rfl⟩⟩; refine ⟨_, rfl, ?_⟩; have p8 : 0 ≤ (x6_1 : Int) := of_decide_eq_true (by first | (with_reducible assumption) | assumption); have q8 : x6_1 < (a0.size : Int) := of_decide_eq_true (by first | (with_reducible assumption) | assumption); have hx8 := bt_at a0 x6_1; replace p8 := eq_true p8; replace q8 := eq_true q8) | (go_at_call 73; (with_reducible refine (strings_IndexByte.calls (⟨#[40, 41, 60, 62, 64, 44, 59, 58, 92, 34, 47, 91, 93, 63, 61]⟩ : ByteArray) (bt a0 x6_1) t462 _ A9.out).mono ?_); rintro e w' ⟨rfl, ⟨nd, rfl⟩⟩))
                go_ret
                exact ⟨by first | rfl | (simp; done) | (simp [*]; done), by repeat (first | exact Drawn0.refl _ | apply Drawn0.step)⟩
              · rw [if_neg c10] at H
                have c10b0 : decide (0 ≤ t462) = false := decide_eq_false c10
                clear c10
                have H' := Aside0.mk H
                clear H
                have p5 : 0 ≤ (x6_1 : Int) := of_decide_eq_true (by first | (with_reducible assumption) | assumption)
                have q5 : x6_1 < (a0.size : Int) := of_decide_eq_true (by first | (with_reducible assumption) | assumption)
                have hx5 := bt_at a0 x6_1
                replace p5 := eq_true p5
                replace q5 := eq_true q5
                go_wp2_with (first | ((with_reducible refine gate_callee (f := 72) rfl ?_); refine goesL_ (some 12) rfl rfl Tryz.func72 (by kernel_rfl) rfl #[.int .u8 (bt a0 x6_1)] rfl (by (try simp only [List.map_toArray, List.map_cons, List.map_nil]); first | done | rfl | (simp only [List.length_drop, List.length_take]; rfl)) ?_; (with_reducible refine (header_visible.calls (bt a0 x6_1) true _ A6.out).mono ?_); rintro e w' ⟨rfl, ⟨nd, rfl⟩⟩; refine ⟨_, rfl, ?_⟩; have p8 : 0 ≤ (x6_1 : Int) := of_decide_eq_true (by first | (with_reducible assumption) | assumption); have q8 : x6_1 < (a0.size : Int) := of_decide_eq_true (by first | (with_reducible assumption) | assumption); have hx8 := bt_at a0 x6_1; replace p8 := eq_true p8; replace q8 := eq_true q8) | (go_at_call 73; (with_reducible refine (strings_IndexByte.calls (⟨#[40, 41, 60, 62, 64, 44, 59, 58, 92, 34, 47, 91, 93, 63, 61]⟩ : ByteArray) (bt a0 x6_1) t462 _ A9.out).mono ?_); rintro e w' ⟨rfl, ⟨nd, rfl⟩⟩))
                go_roundg k1
                case measure => have := HK1.out; omega
                case rel => exact ⟨(wrap64 (x6_1 + 1)), (by first | rfl | (simp; done) | (simp [*]; done)), H', ⟨by have := HK1.out; omega⟩, by repeat (first | exact Drawn0.refl _ | apply Drawn0.step)⟩
            · replace c7 := Bool.eq_false_iff.mpr c7
              subst c7
              have H1 : (some false) = some r := by rw [if_neg (show ¬ (false = true) by decide)] at H; exact H
              clear H
              have H := H1
              clear H1
              obtain rfl := Option.some.inj H
              have p5 : 0 ≤ (x6_1 : Int) := of_decide_eq_true (by first | (with_reducible assumption) | assumption)
              have q5 : x6_1 < (a0.size : Int) := of_decide_eq_true (by first | (with_reducible assumption) | assumption)
              have hx5 := bt_at a0 x6_1
              replace p5 := eq_true p5
              replace q5 := eq_true q5
              go_wp2_with (first | ((with_reducible refine gate_callee (f := 72) rfl ?_); refine goesL_ (some 12) rfl rfl Tryz.func72 (by kernel_rfl) rfl #[.int .u8 (bt a0 x6_1)] rfl (by (try simp only [List.map_toArray, List.map_cons, List.map_nil]); first | done | rfl | (simp only [List.length_drop, List.length_take]; rfl)) ?_; (with_reducible refine (header_visible.calls (bt a0 x6_1) false _ A6.out).mono ?_); rintro e w' ⟨rfl, ⟨nd, rfl⟩⟩; refine ⟨_, rfl, ?_⟩))
              go_ret
              exact ⟨by first | rfl | (simp; done) | (simp [*]; done), by repeat (first | exact Drawn0.refl _ | apply Drawn0.step)⟩
          · rw [if_neg c4] at H
            exact absurd H (by simp)
        · rw [if_neg c3] at H
          exact absurd H (by simp)
      · rw [if_neg c2] at H
        have c2b0 : decide (x6_1 < (a0.size : Int)) = false := decide_eq_false c2
        clear c2
        obtain rfl := Option.some.inj H
        go_wp2
        go_ret
        exact ⟨by first | rfl | (simp; done) | (simp; exact isEmpty_nbne _) | (simp [*]; done), by repeat (first | exact Drawn0.refl _ | apply Drawn0.step)⟩
end Go.Proofs.YtieompfmhnpnaaaGreat.H
end
section
namespace Go.Proofs.YtieompfmhnpnaaaGreat.H
open Go.RowKit Go.Proofs.YtieompfmhnpnaaaGreatW.PrintWords Go.Proofs.YtieompfmhnpnaaaGreatW.PrintLast Go.Proofs.YtieompfmhnpnaaaGreatW.PrintMore
set_option linter.unusedVariables false
set_option linter.unusedSimpArgs false
def specB : List UInt8 := [40, 41, 60, 62, 64, 44, 59, 58, 92, 34, 47, 91, 93, 63, 61]
def tokB (c : UInt8) : Bool := visB c && !(specB.contains c)
def isTokenB (s : ByteArray) : Bool := (bl s).all tokB && !(bl s).isEmpty
theorem spec_at (c : UInt8) : (Lib.indexByte specB c ≥ 0) ↔ specB.contains c = true := by
  constructor
  · intro h
    obtain ⟨o, ho⟩ : ∃ o : Nat, Lib.indexByte specB c = o := ⟨(Lib.indexByte specB c).toNat, by omega⟩
    have := (Lib.indexByte_some ho).1
    rw [List.contains_iff_mem]
    exact List.mem_of_getElem? this
  · intro h
    rw [List.contains_iff_mem] at h
    have hge := Lib.indexByte_ge specB c
    rcases Int.lt_or_le (Lib.indexByte specB c) 0 with h0 | h0
    · have h1 : Lib.indexByte specB c = -1 := by omega
      obtain ⟨i, hi, rfl⟩ := List.getElem_of_mem h
      exact absurd (List.getElem?_eq_getElem hi) (Lib.indexByte_none h1 i)
    · exact h0
theorem isToken_l0 (s : ByteArray) (hs : s.size ≤ 1099511627776) : ∀ (n i : Nat), i + n = s.size →
    Ev (fun k => header_isToken.l0 k s (s.size : Int) (i : Int)) (((bl s).drop i).all tokB && !(bl s).isEmpty)
  | 0, i, hi => by
    have hl := bl_length s
    refine Ev.step (fun k => by simp only [header_isToken.l0]; rfl) ?_
    refine ev_no (by omega) ?_
    refine ev_done ?_
    rw [List.drop_of_length_le (by omega), toList_bl]
    cases bl s <;> rfl
  | n + 1, i, hi => by
    refine Ev.step (fun k => by simp only [header_isToken.l0]; rfl) ?_
    have hb := bt_byteAt s i (by omega)
    refine ev_yes (by omega) ?_
    refine ev_yes (by omega) ?_
    refine ev_yes (by omega) ?_
    simp only [hb, visible_at, Option.bind_some]
    rw [drop_byteAt s i (by omega), List.all_cons]
    by_cases hv : visB (byteAt s i) = true
    · have hx : strings_IndexByte.f (⟨#[40, 41, 60, 62, 64, 44, 59, 58, 92, 34, 47, 91, 93, 63, 61]⟩ : ByteArray) ((byteAt s i).toNat : Int) = some (Lib.indexByte specB (byteAt s i)) := by
        unfold strings_IndexByte.f
        simp [specB]
      simp only [hv, if_true, hx, Option.bind_some]
      by_cases hsp : specB.contains (byteAt s i) = true
      · have ht : tokB (byteAt s i) = false := by unfold tokB; rw [hsp]; simp
        rw [ht]
        refine ev_yes ((spec_at _).2 hsp) ?_
        simp only [Bool.false_and]
        exact Ev.now _
      · have ht : tokB (byteAt s i) = true := by
          unfold tokB
          rw [hv]
          simp only [Bool.true_and]
          simpa using hsp
        rw [ht]
        refine ev_no (fun h => hsp ((spec_at _).1 h)) ?_
        simp only [Bool.true_and]
        rw [wrap_up i (by omega)]
        exact isToken_l0 s hs n (i + 1) (by omega)
    · have hv' : visB (byteAt s i) = false := by simpa using hv
      have ht : tokB (byteAt s i) = false := by unfold tokB; rw [hv']; rfl
      simp only [hv', ht, Bool.false_and]
      exact Ev.now _
theorem isToken_ev (s : ByteArray) (hs : s.size ≤ 1099511627776) : Ev (fun k => header_isToken.f k s) (isTokenB s) := by
  unfold header_isToken.f isTokenB
  have := isToken_l0 s hs s.size 0 (by omega)
  simpa using this
end Go.Proofs.YtieompfmhnpnaaaGreat.H
end
