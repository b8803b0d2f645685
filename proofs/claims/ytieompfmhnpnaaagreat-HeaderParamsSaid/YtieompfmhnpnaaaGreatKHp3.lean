/- Part 3 of the proof of Hp: contracts and plain laws, joined and shortened by bundle.py of this repo. -/
import Derived.Test.YtieompfmhnpnaaaGreatKHp2
import Derived.Deep.WholeRow
import Derived.Deep.RegionHeld
import Derived.Lib.SliceRun
import Derived.Deep.RegionHeld3
import Derived.Lib.Bytealg
import Derived.Laws.IdiomCopy
import Derived.Maps.AppendAt
import Derived.RangeFuncNested
import Derived.RangeFuncBox
import Derived.RangeFuncLeaves
import Derived.Shelf.Abstract
import Derived.WalkKit
import Derived.OwnWalkIn
import Derived.TacticsInMore
import Derived.LoopNIn
import Derived.LoopIn
import Derived.Laws.EntriesVeiled
section
namespace Go.Proofs.YtieompfmhnpnaaaGreat.H
open Go.RowKit Go.Proofs.YtieompfmhnpnaaaGreatW.PrintWords Go.Proofs.YtieompfmhnpnaaaGreatW.PrintLast Go.Proofs.YtieompfmhnpnaaaGreatW.PrintMore
set_option linter.unusedVariables false
set_option linter.unusedSimpArgs false
structure NewRep (B : Nat) (w : World) (g : Nat) (st : Int) (x0 x1 x2 x3 : ByteArray) : Prop where
  ge : B ≤ g
  done : w.cell? ⟨g, 0, none⟩ = some (.int .u32 0)
  state : w.cell? ⟨g, 1, none⟩ = some (.int .i32 st)
  r : w.cell? ⟨g, 3, none⟩ = some .nilIface
  fz : ∀ j, w.frozen? ⟨g, j, none⟩ = false
  row : ∃ h cap, B ≤ h ∧ h ≠ g ∧ w.cell? ⟨g, 4, none⟩ = some (.slice (some ⟨h, 0, none⟩) 4 cap) ∧
    w.cell? ⟨h, 0, none⟩ = some (.string x0) ∧ w.cell? ⟨h, 1, none⟩ = some (.string x1) ∧ w.cell? ⟨h, 2, none⟩ = some (.string x2) ∧ w.cell? ⟨h, 3, none⟩ = some (.string x3)
theorem NewRep.locked {B : Nat} {w : World} {g : Nat} {st : Int} {x0 x1 x2 x3 : ByteArray} (h : NewRep B w g st x0 x1 x2 x3) (v : Int) : NewRep B (w.setCell ⟨g, 1, none⟩ (.int .i32 v)) g v x0 x1 x2 x3 := by
  obtain ⟨hge, h0, h1, h3, hf, k, cap, hB, hne, h4, c0, c1, c2, c3⟩ := h
  have far : ∀ j : Nat, j ≠ 1 → (w.setCell ⟨g, 1, none⟩ (.int .i32 v)).cell? ⟨g, j, none⟩ = w.cell? ⟨g, j, none⟩ := fun j hj => World.cell?_setCell_other _ _ _ _ (fun e => by injection e with _ e2; exact hj e2.symm)
  have far2 : ∀ j : Nat, (w.setCell ⟨g, 1, none⟩ (.int .i32 v)).cell? ⟨k, j, none⟩ = w.cell? ⟨k, j, none⟩ := fun j => World.cell?_setCell_other _ _ _ _ (fun e => by injection e with e2 _; exact hne e2.symm)
  exact ⟨hge, (far 0 (by decide)).trans h0, World.cell?_setCell_same _ _ _ h1, (far 3 (by decide)).trans h3, fun j => by rw [World.frozen?_setCell]; exact hf j, k, cap, hB, hne, (far 4 (by decide)).trans h4, (far2 0).trans c0, (far2 1).trans c1, (far2 2).trans c2, (far2 3).trans c3⟩
set_option maxRecDepth 100000 in
set_option maxHeartbeats 1000000 in
theorem new_replacer (b : Nat) (x0 x1 x2 x3 : ByteArray) (w : World) (c0 : w.cell? ⟨b, 0, none⟩ = some (.string x0)) (c1 : w.cell? ⟨b, 1, none⟩ = some (.string x1)) (c2 : w.cell? ⟨b, 2, none⟩ = some (.string x2)) (c3 : w.cell? ⟨b, 3, none⟩ = some (.string x3)) :
    Calls Tryz.prog 52 #[.slice (some ⟨b, 0, none⟩) 4 4] w fun e w' => ∃ g, e = .returned (.pointer (some ⟨g, 0, none⟩)) ∧ NewRep w.heap.size w' g 0 x0 x1 x2 x3 ∧ Below w.heap.size w w' := by
  obtain ⟨i0, hi, hz0, hz1, hz2⟩ := info_parts info9
  have hown := World.ownsRow_nil w w.heap.size 9 1
  go_enter Tryz.func52, Tryz.ntmps52
  go_wp2_with fail
  generalize (Question.appendCap 4 0 9).cut (w.tape w.drawn (Question.appendCap 4 0 9)) = cap
  go_ret
  refine ⟨w.heap.size + 1, rfl, ?_, ?_⟩
  · obtain ⟨W, hW⟩ : ∃ W, W = w.alloc (Obj.cells (#[Value.string x0, Value.string x1, Value.string x2, Value.string x3] ++ Builtin.zeroCells #[Value.string { data := #[] }] (cap - 4)) 9) := ⟨_, rfl⟩
    have hn := heap_alloc_new W (Obj.cells #[Value.int IntKind.u32 0, Value.int IntKind.i32 0, Value.int IntKind.u32 0, Value.nilIface, Value.slice (some { block := w.heap.size, off := 0 }) 4 cap] 105)
    have hs : W.heap.size = w.heap.size + 1 := by rw [hW, World.size_alloc]
    rw [← hW]
    rw [hs] at hn
    have hh : ∀ j : Nat, ((W.alloc (Obj.cells #[Value.int IntKind.u32 0, Value.int IntKind.i32 0, Value.int IntKind.u32 0, Value.nilIface, Value.slice (some { block := w.heap.size, off := 0 }) 4 cap] 105)).drew).cell? ⟨w.heap.size, j, none⟩ = W.cell? ⟨w.heap.size, j, none⟩ := fun j => World.cell?_alloc_lt W _ ⟨w.heap.size, j, none⟩ (by show w.heap.size < W.heap.size; omega)
    refine ⟨by omega, ?_, ?_, ?_, fun j => ?_, w.heap.size, cap, Nat.le_refl _, by omega, ?_, ?_, ?_, ?_, ?_⟩
    · exact (Lib.cell_of_heap hn 0)
    · exact (Lib.cell_of_heap hn 1)
    · exact (Lib.cell_of_heap hn 3)
    · exact (Lib.frozen_of_heap hn j)
    · exact (Lib.cell_of_heap hn 4)
    all_goals (rw [hh, hW]; simp [Array.getElem?_append])
  · exact (((Below.refl _ _).alloc (Nat.le_refl _) _).alloc (by simp) _).drew
def idTab (n k : Nat) : List Int := (List.range n).map fun j => if j < k then (j : Int) else 0
theorem idTab_length (n k : Nat) : (idTab n k).length = n := by simp [idTab]
theorem idTab_set (n k : Nat) (h : k < n) : (idTab n k).set k (k : Int) = idTab n (k + 1) := by
  apply List.ext_getElem
  · simp [idTab]
  · intro i h1 h2
    simp [idTab, List.getElem_set]
    by_cases e : k = i
    · subst e; simp
    · rw [if_neg e]
      by_cases h3 : i < k
      · rw [if_pos h3, if_pos (by omega)]
      · rw [if_neg h3, if_neg (by omega)]
theorem idTab_zero (n : Nat) : idTab n 0 = List.replicate n 0 := by
  apply List.ext_getElem
  · simp [idTab]
  · intro i h1 h2
    simp [idTab]
def tabk (k : Nat) : List Int := idTab 256 k
theorem tabk_length (k : Nat) : (tabk k).length = 256 := idTab_length 256 k
theorem tabk_set (k : Nat) (h : k < 256) : (tabk k).set k (k : Int) = tabk (k + 1) := idTab_set 256 k h
theorem tabk_zero : tabk 0 = List.replicate 256 0 := idTab_zero 256
def tab2 (a0 a1 a2 a3 : UInt8) : List Int := ((tabk 256).set a2.toNat (a3.toNat : Int)).set a0.toNat (a1.toNat : Int)
theorem zeroCells128_eq : Tryz.zeroCells128 = (List.replicate 256 (Value.int .u8 0)).toArray := by kernel_rfl
def Stage3 (wr w1 w2 : World) (i : Value) (W : World) : Prop := (i = .int .i64 2 ∧ W = wr) ∨ (i = .int .i64 0 ∧ W = w1) ∨ (i = .int .i64 (-2) ∧ W = w2)
theorem zeros_at (w : World) (n j : Nat) (hj : j < n) : (w.alloc (Obj.cells (List.replicate n (Value.int .u8 0)).toArray 128)).cell? ⟨w.heap.size, j, none⟩ = some (.int .u8 ((List.replicate n (0 : Int)).getD j 0)) ∧ (w.alloc (Obj.cells (List.replicate n (Value.int .u8 0)).toArray 128)).frozen? ⟨w.heap.size, j, none⟩ = false := by
  refine ⟨?_, by simp⟩
  rw [World.cell?_alloc_new]
  simp [List.getD, hj]
set_option maxRecDepth 100000 in
set_option maxHeartbeats 1000000 in
theorem build_bytes (B g : Nat) (st : Int) (a0 a1 a2 a3 : UInt8) (w : World) (hr : NewRep B w g st ⟨#[a0]⟩ ⟨#[a1]⟩ ⟨#[a2]⟩ ⟨#[a3]⟩) :
    Calls Tryz.prog 95 #[.pointer (some ⟨g, 0, none⟩)] w fun e w' => ∃ h, e = .returned (.iface 129 (.pointer (some ⟨h, 0, none⟩))) ∧ w.heap.size ≤ h ∧ RowB w' h 256 (tab2 a0 a1 a2 a3) ∧ Below w.heap.size w w' := by
  obtain ⟨hge, -, -, -, -, h, cap, hB, hne, g4, c0, c1, c2, c3⟩ := hr
  have hlt : h < w.heap.size := World.block_lt_of_cell? w ⟨h, 0, none⟩ c0
  go_enter Tryz.func95, Tryz.ntmps95
  go_wp2_with fail
  go_loop [4, 5] (fun a i => ∃ k : Nat, k ≤ 2 ∧ a = .bool true ∧ i = .int .i64 (2 * k : Nat)) (fun _ i => (4 - intOf i).toNat)
  case atStart => exact ⟨0, by omega, rfl, rfl⟩
  case round =>
    obtain ⟨k, hk, rfl, rfl⟩ := hrel
    obtain rfl | rfl | rfl : k = 0 ∨ k = 1 ∨ k = 2 := by omega
    · go_wp2_with fail
      go_round
      case rel => exact ⟨1, by omega, rfl, rfl⟩
      case measure => simp [intOf]
    · go_wp2_with fail
      go_round
      case rel => exact ⟨2, by omega, rfl, rfl⟩
      case measure => simp [intOf]
    · have hst := run_storeCells_new (P := Tryz.prog) w 128 Tryz.zeroCells128 Tryz.zeroCells128 (by kernel_rfl) rfl (by kernel_rfl)
      go_wp2_with fail
      clear hst
      have hrow0 : RowB (w.alloc (Obj.cells Tryz.zeroCells128 128)) w.heap.size 256 (tabk 0) := fun j hj => by
        rw [zeroCells128_eq, tabk_zero]
        exact zeros_at w 256 j hj
      have hold0 : Below w.heap.size w (w.alloc (Obj.cells Tryz.zeroCells128 128)) := (Below.refl _ _).alloc (Nat.le_refl _) _
      go_loopw [61] (fun i wr => ∃ k : Nat, k ≤ 256 ∧ i = .int .i64 k ∧ RowB wr w.heap.size 256 (tabk k) ∧ Below w.heap.size w wr) (fun i _ => 256 - (intOf i).toNat)
      case atStart => exact ⟨0, by omega, rfl, hrow0, hold0⟩
      case round =>
        obtain ⟨k, hk, rfl, hown, hB1⟩ := hrel
        clear hrow0 hold0
        by_cases hk2 : k < 256
        · have hcell := (hown k hk2).1
          have hfz := (hown k hk2).2
          have hs := hown.set (tabk_length k) k hk2 (k : Int)
          rw [tabk_set k hk2] at hs
          have HS := Aside0.mk hs
          clear hs
          go_wp2_with fail
          go_roundw
          case rel => exact ⟨k + 1, by omega, by go_num, HS.out, hB1.setCell (p := ⟨w.heap.size, k, none⟩) (Nat.le_refl _) _⟩
          case measure => simp [intOf]; omega
        · have hkk : k = 256 := by omega
          subst hkk
          have d0 := pw_cell_below hB1 c0
          have d1 := pw_cell_below hB1 c1
          have d2 := pw_cell_below hB1 c2
          have d3 := pw_cell_below hB1 c3
          have b2 := a2.toNat_lt
          have b0 := a0.toNat_lt
          have e2 := hown a2.toNat b2
          have g0 : 0 ≤ (a0.toNat : Int) := by omega
          have g2 : 0 ≤ (a2.toNat : Int) := by omega
          have hs2 := hown.set (tabk_length 256) a2.toNat b2 (a3.toNat : Int)
          have hs0 := hs2.set (by simp [tabk_length]) a0.toNat b0 (a1.toNat : Int)
          have e0 := hs2 a0.toNat b0
          obtain ⟨e2a, e2b⟩ := e2
          obtain ⟨e0a, e0b⟩ := e0
          have f0 : (wr.setCell ⟨w.heap.size, a2.toNat, none⟩ (.int .u8 (a3.toNat : Int))).cell? ⟨h, 0, none⟩ = some (.string ⟨#[a0]⟩) := (World.cell?_setCell_far wr ⟨w.heap.size, a2.toNat, none⟩ ⟨h, 0, none⟩ _ (by simp; omega)).trans d0
          have f1 : (wr.setCell ⟨w.heap.size, a2.toNat, none⟩ (.int .u8 (a3.toNat : Int))).cell? ⟨h, 1, none⟩ = some (.string ⟨#[a1]⟩) := (World.cell?_setCell_far wr ⟨w.heap.size, a2.toNat, none⟩ ⟨h, 1, none⟩ _ (by simp; omega)).trans d1
          have HS0 := Aside0.mk hs0
          have HB1 := Aside0.mk hB1
          clear hs0 hs2 hown hB1 c0 c1 c2 c3
          have k0 : ∀ hh : 0 < (⟨#[a0]⟩ : ByteArray).size, (⟨#[a0]⟩ : ByteArray)[0]'hh = a0 := fun _ => rfl
          have k1 : ∀ hh : 0 < (⟨#[a1]⟩ : ByteArray).size, (⟨#[a1]⟩ : ByteArray)[0]'hh = a1 := fun _ => rfl
          have k2 : ∀ hh : 0 < (⟨#[a2]⟩ : ByteArray).size, (⟨#[a2]⟩ : ByteArray)[0]'hh = a2 := fun _ => rfl
          have k3 : ∀ hh : 0 < (⟨#[a3]⟩ : ByteArray).size, (⟨#[a3]⟩ : ByteArray)[0]'hh = a3 := fun _ => rfl
          go_wp2_with fail
          obtain ⟨w1, hw1⟩ : ∃ w1, w1 = wr.setCell ⟨w.heap.size, a2.toNat, none⟩ (.int .u8 (a3.toNat : Int)) := ⟨_, rfl⟩
          rw [← hw1] at f0 f1 e0a e0b HS0
          have HW := Aside0.mk hw1
          clear hw1
          go_loopw [8] (Stage3 wr w1 (w1.setCell ⟨w.heap.size, a0.toNat, none⟩ (.int .u8 (a1.toNat : Int)))) (fun i _ => (intOf i + 2).toNat)
          case atStart => exact .inl ⟨rfl, rfl⟩
          case round =>
            rcases hrel with ⟨rfl, rfl⟩ | ⟨rfl, rfl⟩ | ⟨rfl, rfl⟩
            · go_wp2_with fail
              go_roundw
              case rel => exact .inr (.inl ⟨rfl, HW.out.symm⟩)
              case measure => simp [intOf]
            · go_wp2_with fail
              go_roundw
              case rel => exact .inr (.inr ⟨rfl, rfl⟩)
              case measure => simp [intOf]
            · go_wp2_with fail
              go_ret
              refine ⟨w.heap.size, rfl, Nat.le_refl _, HS0.out, ?_⟩
              rw [HW.out]
              exact (HB1.out.setCell (p := ⟨w.heap.size, a2.toNat, none⟩) (Nat.le_refl _) _).setCell (p := ⟨w.heap.size, a0.toNat, none⟩) (Nat.le_refl _) _
theorem RowB.far {w : World} {g h n : Nat} {xs : List Int} (r : RowB w h n xs) (hne : g ≠ h) (j : Nat) (v : Value) : RowB (w.setCell ⟨g, j, none⟩ v) h n xs := fun i hi =>
  ⟨(World.cell?_setCell_far w ⟨g, j, none⟩ ⟨h, i, none⟩ v hne).trans (r i hi).1, by rw [World.frozen?_setCell]; exact (r i hi).2⟩
def Tabled (B g : Nat) (tab : List Int) (w0 w : World) : Prop := ∃ h, B ≤ h ∧ h ≠ g ∧ w.cell? ⟨g, 3, none⟩ = some (.iface 129 (.pointer (some ⟨h, 0, none⟩))) ∧ RowB w h 256 tab ∧ Below B w0 w
set_option maxRecDepth 100000 in
set_option maxHeartbeats 1000000 in
theorem buildOnce_bytes (B g : Nat) (a0 a1 a2 a3 : UInt8) (w : World) (hr : NewRep B w g 1 ⟨#[a0]⟩ ⟨#[a1]⟩ ⟨#[a2]⟩ ⟨#[a3]⟩) :
    Calls Tryz.prog 81 #[.pointer (some ⟨g, 0, none⟩)] w fun e w' => e = .returned (.tuple #[]) ∧ Held w' g ∧ Tabled B g (tab2 a0 a1 a2 a3) w w' := by
  have HR := Aside0.mk hr
  have hge := hr.ge
  have hlt : g < w.heap.size := World.block_lt_of_cell? w ⟨g, 0, none⟩ hr.done
  go_enter Tryz.func81, Tryz.ntmps81
  go_wp2_with fail
  refine (build_bytes B g 1 a0 a1 a2 a3 w HR.out).mono ?_
  rintro e w1 ⟨h, rfl, hh, hrow, hb⟩
  have d0 := pw_cell_below hb HR.out.done
  have d1 := pw_cell_below hb HR.out.state
  have d3 := pw_cell_below hb HR.out.r
  obtain ⟨k, cap, -, -, d4', -⟩ := HR.out.row
  have d4 := pw_cell_below hb d4'
  clear d4'
  have fz : ∀ j, w1.frozen? ⟨g, j, none⟩ = false := fun j => (hb.frozen (p := ⟨g, j, none⟩) hlt).trans (HR.out.fz j)
  have f3 := fz 3
  have f4 := fz 4
  have HROW := Aside0.mk hrow
  have HB := Aside0.mk hb
  have FZ := Aside0.mk fz
  clear hrow hb fz hr
  go_wp2_with fail
  go_end0
  have hgh : g ≠ h := by omega
  have hBw : Below B w w1 := HB.out.mono (by omega)
  refine ⟨rfl, ⟨?_, ?_, ?_, ?_⟩, h, by omega, by omega, ?_, ?_, (hBw.setCell (p := ⟨g, 3, none⟩) hge _).setCell (p := ⟨g, 4, none⟩) hge _⟩
  · exact (World.cell?_setCell_other _ ⟨g, 4, none⟩ ⟨g, 0, none⟩ _ (by simp)).trans ((World.cell?_setCell_other _ ⟨g, 3, none⟩ ⟨g, 0, none⟩ _ (by simp)).trans d0)
  · exact (World.cell?_setCell_other _ ⟨g, 4, none⟩ ⟨g, 1, none⟩ _ (by simp)).trans ((World.cell?_setCell_other _ ⟨g, 3, none⟩ ⟨g, 1, none⟩ _ (by simp)).trans d1)
  · rw [World.frozen?_setCell, World.frozen?_setCell]; exact FZ.out 0
  · rw [World.frozen?_setCell, World.frozen?_setCell]; exact FZ.out 1
  · exact (World.cell?_setCell_other _ ⟨g, 4, none⟩ ⟨g, 3, none⟩ _ (by simp)).trans (World.cell?_setCell_same _ _ _ d3)
  · exact (HROW.out.far hgh 3 _).far hgh 4 _
end Go.Proofs.YtieompfmhnpnaaaGreat.H
namespace Go.Proofs.YtieompfmhnpnaaaGreat.H
open Go.RowKit Go.Proofs.YtieompfmhnpnaaaGreatW.PrintWords Go.Proofs.YtieompfmhnpnaaaGreatW.PrintLast Go.Proofs.YtieompfmhnpnaaaGreatW.PrintMore
set_option linter.unusedVariables false
set_option linter.unusedSimpArgs false
def tv (tab : List Int) (c : UInt8) : Int := tab.getD c.toNat 0
def tabRow (s : ByteArray) (tab : List Int) (k : Nat) : List Int := (s.data.toList.take k).map (tv tab) ++ (s.data.toList.drop k).map (fun c => (c.toNat : Int))
def tabS (s : ByteArray) (tab : List Int) : ByteArray := strOfNums (s.data.toList.map (tv tab))
theorem tabRow_length (s : ByteArray) (tab : List Int) (k : Nat) (h : k ≤ s.size) : (tabRow s tab k).length = s.size := by
  have : s.data.toList.length = s.size := by simp
  simp [tabRow]
  omega
theorem tabRow_at (s : ByteArray) (tab : List Int) (k : Nat) (h : k < s.size) : (tabRow s tab k).getD k 0 = (s[k].toNat : Int) := by
  have hl : s.data.toList.length = s.size := by simp
  unfold tabRow
  rw [List.getD_eq_getElem?_getD, List.getElem?_append_right (by simp; omega)]
  simp
  rw [Nat.min_eq_left (by omega)]
  simp [h]
  rfl
theorem tabRow_set (s : ByteArray) (tab : List Int) (k : Nat) (h : k < s.size) : (tabRow s tab k).set k (tv tab s[k]) = tabRow s tab (k + 1) := by
  have hl : s.data.toList.length = s.size := by simp
  have hk : k < s.data.toList.length := by omega
  unfold tabRow
  rw [List.set_append_right _ _ (by simp; omega)]
  rw [List.take_succ_eq_append_getElem hk, List.map_append, List.append_assoc]
  congr 1
  have e : s.data.toList.drop k = s.data.toList[k] :: s.data.toList.drop (k + 1) := List.drop_eq_getElem_cons hk
  rw [e]
  simp
  rw [Nat.min_eq_left (by omega)]
  simp
  rfl
theorem tabRow_same (s : ByteArray) (tab : List Int) (k : Nat) (h : k < s.size) (he : tv tab s[k] = (s[k].toNat : Int)) : tabRow s tab (k + 1) = tabRow s tab k := by
  rw [← tabRow_set s tab k h, he]
  have hl := tabRow_length s tab k (by omega)
  apply List.ext_getElem
  · simp
  · intro i h1 h2
    rw [List.getElem_set]
    by_cases e : k = i
    · subst e
      rw [if_pos rfl]
      have := tabRow_at s tab k h
      rw [List.getD_eq_getElem?_getD, List.getElem?_eq_getElem h2] at this
      simpa using this.symm
    · rw [if_neg e]
theorem tabRow_end (s : ByteArray) (tab : List Int) : strOfNums (tabRow s tab s.size) = tabS s tab := by
  have hl : s.data.toList.length = s.size := by simp
  unfold tabRow tabS
  rw [List.drop_of_length_le (by omega), List.take_of_length_le (by omega)]
  simp
theorem tabRow_zero (s : ByteArray) (tab : List Int) : strOfNums (tabRow s tab 0) = s := by
  unfold tabRow
  have := byteInts_back s.data.toList
  unfold byteInts at this
  simpa using this
def BufSt (B : Nat) (s : ByteArray) (tab : List Int) (k : Nat) (v : Value) (w : World) : Prop :=
  (v = .slice none 0 0 ∧ tabRow s tab k = tabRow s tab 0) ∨ ∃ g cap, B ≤ g ∧ v = .slice (some ⟨g, 0, none⟩) s.size cap ∧ RowB w g s.size (tabRow s tab k)
theorem row_of_bytes (w : World) (s : ByteArray) (tab : List Int) : RowB (Lib.bytesWorld w 5 s) w.heap.size s.size (tabRow s tab 0) := fun j hj => by
  refine ⟨?_, ?_⟩
  · rw [Lib.bytesWorld_cell w 5 s j hj]
    simp [tabRow, List.getD, hj]
  · have hb := Lib.bytesWorld_at_new w 5 s
    have hz : s.size ≤ (Lib.bytesCells w 5 s).size := by simp [Lib.bytesCells]
    unfold World.frozen?
    rw [show (Lib.bytesWorld w 5 s).heap[(⟨w.heap.size, j, none⟩ : Addr).block]? = _ from hb]
    simp
    omega
theorem below_bytes {B : Nat} {w W : World} (h : Below B w W) (hB : B ≤ W.heap.size) (s : ByteArray) : Below B w (Lib.bytesWorld W 5 s) := by
  refine h.trans ⟨rfl, rfl, rfl, ?_, fun i hi => Lib.bytesWorld_at_old W 5 s i (by omega)⟩
  rw [Lib.bytesWorld_size]
  omega
theorem RowB.below {w w1 : World} {h n : Nat} {xs : List Int} {B : Nat} (r : RowB w h n xs) (hb : Below B w w1) (hB : h < B) : RowB w1 h n xs := fun j hj =>
  ⟨(hb.cell (p := ⟨h, j, none⟩) hB).trans (r j hj).1, (hb.frozen (p := ⟨h, j, none⟩) hB).trans (r j hj).2⟩
set_option maxRecDepth 100000 in
set_option maxHeartbeats 1000000 in
theorem byteReplace (h : Nat) (tab : List Int) (s : ByteArray) (w : World) (hs : s.size ≤ 1099511627776) (hr : RowB w h 256 tab) (hlt : h < w.heap.size) :
    Calls Tryz.prog 156 #[.pointer (some ⟨h, 0, none⟩), .string s] w fun e w' => e = .returned (.string (tabS s tab)) ∧ Below w.heap.size w w' := by
  have hcv : ∀ W : World, (convert 9 45 (.string s)).run Tryz.prog W = .ok (.slice (some ⟨W.heap.size, 0, none⟩) s.size (grownCap W s.size 0 5)) (Lib.bytesWorld W 5 s) := fun W => Lib.run_convert_string_bytes W 9 45 5 s Tryz.underlying9 Tryz.underlying45 Tryz.underlying5
  have qT : ∀ (w : World) (a : Option Addr) (n c n' c' : Nat), (binOp .eql 45 (.slice a n c) (.slice none n' c')).run Tryz.prog w = .ok (.bool a.isNone) w := fun w a n c n' c' => Lib.run_eql_slice_nil w _ _ a n c n' c' Tryz.underlying45
  go_enter Tryz.func156, Tryz.ntmps156
  go_wp2_with fail
  go_loopw [5, 6] (fun v i wr => ∃ k : Nat, k ≤ s.size ∧ i = .int .i64 k ∧ BufSt w.heap.size s tab k v wr ∧ Below w.heap.size w wr) (fun _ i _ => s.size - (intOf i).toNat)
  case atStart => exact ⟨0, Nat.zero_le _, rfl, .inl ⟨rfl, rfl⟩, Below.refl _ _⟩
  case round =>
    obtain ⟨k, hk, rfl, hbuf, hB⟩ := hrel
    have hr1 := hr.below hB hlt
    by_cases hk2 : k < s.size
    · have hc := s[k].toNat_lt
      have g0 : 0 ≤ (s[k].toNat : Int) := by omega
      have hcell := (hr1 s[k].toNat hc).1
      have htv : tab.getD s[k].toNat 0 = tv tab s[k] := rfl
      rw [htv] at hcell
      by_cases he : tv tab s[k] = (s[k].toNat : Int)
      · have hb : (tv tab s[k] != (s[k].toNat : Int)) = false := by simpa using he
        have hsame := tabRow_same s tab k hk2 he
        have HS := Lib.hid hsame
        have HBUF := Aside0.mk hbuf
        clear hsame he hbuf htv hr1 hr
        go_wp2_with fail
        go_roundw
        case rel =>
          refine ⟨k + 1, by omega, by go_num, ?_, hB⟩
          unfold BufSt
          rw [HS.out]
          exact HBUF.out
        case measure => simp [intOf]; omega
      · have hb : (tv tab s[k] != (s[k].toNat : Int)) = true := by simpa using he
        rcases hbuf with ⟨rfl, h0⟩ | ⟨g, cap, hg, rfl, hrow⟩
        · have hrow := row_of_bytes wr s tab
          rw [← h0] at hrow
          have hcell2 := (((hr.below hB hlt).below (below_bytes (Below.refl wr.heap.size wr) (Nat.le_refl _) s) (by have := hB.size; omega)) s[k].toNat hc).1
          rw [htv] at hcell2
          have hk0 := (hrow k hk2).1
          have hkf := (hrow k hk2).2
          have hset := hrow.set (tabRow_length s tab k (by omega)) k hk2 (tv tab s[k])
          rw [tabRow_set s tab k hk2] at hset
          have HSET := Aside0.mk hset
          have HB2 := Aside0.mk (below_bytes hB hB.size s)
          clear hset hrow h0 he htv hr1 hr
          have hsz := hB.size
          go_wp2_with fail
          go_roundw
          case rel => exact ⟨k + 1, by omega, by go_num, .inr ⟨wr.heap.size, _, hsz, rfl, HSET.out⟩, HB2.out.setCell (p := ⟨wr.heap.size, k, none⟩) hsz _⟩
          case measure => simp [intOf]; omega
        · have hk0 := (hrow k hk2).1
          have hkf := (hrow k hk2).2
          have hset := hrow.set (tabRow_length s tab k (by omega)) k hk2 (tv tab s[k])
          rw [tabRow_set s tab k hk2] at hset
          have HSET := Aside0.mk hset
          clear hset hrow he htv hr1 hr
          go_wp2_with fail
          go_roundw
          case rel => exact ⟨k + 1, by omega, by go_num, .inr ⟨g, cap, hg, rfl, HSET.out⟩, hB.setCell (p := ⟨g, k, none⟩) hg _⟩
          case measure => simp [intOf]; omega
    · have hkk : k = s.size := by omega
      subst hkk
      rcases hbuf with ⟨rfl, h0⟩ | ⟨g, cap, hg, rfl, hrow⟩
      · have hend := tabRow_end s tab
        rw [h0, tabRow_zero] at hend
        have HE := Lib.hid hend
        clear hend h0 hr hr1
        go_wp2_with fail
        go_ret
        exact ⟨congrArg (fun x => Ending.returned (Value.string x)) HE.out, hB⟩
      · have hc := fun cap => run_convert_bytes_arg (P := Tryz.prog) wr 45 5 Tryz.underlying45 Tryz.underlying5 g 0 s.size cap _ (tabRow_length s tab _ (Nat.le_refl _)) (fun i hi => by rw [Nat.zero_add]; exact (hrow i hi).1) 9 Tryz.underlying9
        rw [tabRow_end] at hc
        clear hr hr1 hrow
        go_wp2_with fail
        go_ret
        exact ⟨rfl, hB⟩
theorem method129 (a : Addr) (w : World) : (method 290 129 (.pointer (some a)) "Replace").run Tryz.prog w = .ok (156, .pointer (some a)) w := by kernel_rfl
set_option maxRecDepth 100000 in
set_option maxHeartbeats 1000000 in
theorem replace_bytes (B g : Nat) (a0 a1 a2 a3 : UInt8) (s : ByteArray) (w : World) (hs : s.size ≤ 1099511627776) (hB : B ≤ w.heap.size) (hr : NewRep B w g 0 ⟨#[a0]⟩ ⟨#[a1]⟩ ⟨#[a2]⟩ ⟨#[a3]⟩) :
    Calls Tryz.prog 53 #[.pointer (some ⟨g, 0, none⟩), .string s] w fun e w' => e = .returned (.string (tabS s (tab2 a0 a1 a2 a3))) ∧ Below B w w' := by
  have hge := hr.ge
  have hlock := hr.locked 1
  have hfn := buildOnce_bytes B g a0 a1 a2 a3 _ hlock
  have hfresh : Fresh w g := ⟨hr.done, hr.state, hr.fz 0, hr.fz 1⟩
  have HFN := Aside0.mk hfn
  clear hfn hlock hr
  go_enter Tryz.func53, Tryz.ntmps53
  go_wp2_with fail
  refine (do_first g w hfresh _ HFN.out).mono ?_
  rintro e w1 ⟨rfl, w2, ⟨h, hh, hhg, hc3, hrow, hb⟩, hw⟩
  have e3 : w1.cell? ⟨g, 3, none⟩ = some (.iface 129 (.pointer (some ⟨h, 0, none⟩))) := by
    rw [hw]
    exact (World.cell?_setCell_other _ ⟨g, 1, none⟩ ⟨g, 3, none⟩ _ (by simp)).trans ((World.cell?_setCell_other _ ⟨g, 0, none⟩ ⟨g, 3, none⟩ _ (by simp)).trans hc3)
  have hrow1 : RowB w1 h 256 (tab2 a0 a1 a2 a3) := by
    rw [hw]
    exact (RowB.far (w := w2.drew) hrow (Ne.symm hhg) 0 _).far (Ne.symm hhg) 1 _
  have hb1 : Below B w w1 := by
    rw [hw]
    exact (((((Below.refl B w).setCell (p := ⟨g, 1, none⟩) hge _).trans hb).drew).setCell (p := ⟨g, 0, none⟩) hge _).setCell (p := ⟨g, 1, none⟩) hge _
  have hlt : h < w1.heap.size := World.block_lt_of_cell? w1 ⟨h, 0, none⟩ (hrow1 0 (by decide)).1
  clear hw hrow hb hc3
  have HROW := Aside0.mk hrow1
  have HB := Aside0.mk hb1
  clear hrow1 hb1
  have hm := method129
  go_wp2_with fail
  refine (byteReplace h _ s w1 hs HROW.out hlt).mono ?_
  rintro e w3 ⟨rfl, hb3⟩
  have HB3 := Aside0.mk hb3
  clear hb3
  go_wp2_with fail
  go_ret
  exact ⟨rfl, HB.out.trans (HB3.out.mono (by have := HB.out.size; omega))⟩
end Go.Proofs.YtieompfmhnpnaaaGreat.H
end
section
namespace Go.Proofs.YtieompfmhnpnaaaGreat.H
open Go.RowKit Go.Proofs.YtieompfmhnpnaaaGreatW.PrintWords Go.Proofs.YtieompfmhnpnaaaGreatW.PrintLast Go.Proofs.YtieompfmhnpnaaaGreatW.PrintMore
set_option linter.unusedVariables false
set_option linter.unusedSimpArgs false
def Bld (B bb : Nat) (l : List UInt8) (w : World) : Prop := Lib.IsBuilderF 66 5 B bb (Lib.byteCells l) w
theorem byteCells_append (l m : List UInt8) : Lib.byteCells (l ++ m) = Lib.byteCells l ++ Lib.byteCells m := by simp [Lib.byteCells]
structure BKept (B bb : Nat) (w w' : World) : Prop where
  below : Below B w w'
  others : Lib.OthersKept 5 (some bb) w w'
theorem BKept.refl (B bb : Nat) (w : World) : BKept B bb w w := ⟨Below.refl _ _, Lib.OthersKept.refl _ _ _⟩
theorem BKept.trans {B bb : Nat} {a b c : World} (h : BKept B bb a b) (k : BKept B bb b c) : BKept B bb a c := ⟨h.below.trans k.below, h.others.trans k.others⟩
theorem BKept.drawn {B bb : Nat} {a b c : World} (h : BKept B bb a b) (k : Drawn0 b c) : BKept B bb a c := by
  obtain ⟨n, rfl⟩ := k
  exact ⟨pw_below_drewN h.below n, fun i o hi hb ho => h.others i o hi hb ho⟩
theorem BKept.made {B bb : Nat} {a b c : World} (h : BKept B bb a b) (k : Below b.heap.size b c) (hB : B ≤ b.heap.size) : BKept B bb a c :=
  ⟨h.below.trans (k.mono hB), fun i o hi hb ho => by
    have h1 := h.others i o hi hb ho
    exact (k.block i (Array.getElem?_eq_some_iff.1 h1).1).trans h1⟩
theorem Bld.keep {B bb : Nat} {l : List UInt8} {a b : World} (h : Bld B bb l a) (k : Below a.heap.size a b) : Bld B bb l b := by
  have key : ∀ p, Lib.BuilderAtF 66 5 B bb p (Lib.byteCells l) a → Lib.BuilderAtF 66 5 B bb p (Lib.byteCells l) b := fun p hp => by
    obtain ⟨h1, v, h2, h3, h4⟩ := hp
    exact ⟨h1, v, (k.block bb (Array.getElem?_eq_some_iff.1 h2).1).trans h2, h3.kept (grown_of_below k none) (by cases v.ownBlock <;> simp), h4⟩
  rcases h with h | h
  · exact .inl (key _ h)
  · exact .inr (key _ h)
theorem wstr (B bb : Nat) (l : List UInt8) (s : ByteArray) (w : World) (h : Bld B bb l w) (hlen : l.length + s.size ≤ 140737488355328) (hB : B ≤ w.heap.size) :
    Calls Tryz.prog 51 #[.pointer (some ⟨bb, 0, none⟩), .string s] w fun e w' => e = .returned (.tuple #[.int .i64 s.size, .nilIface]) ∧ Bld B bb (l ++ s.data.toList) w' ∧ BKept B bb w w' := by
  refine (Tryz.WriteString B bb (Lib.byteCells l) s w h (by rw [Lib.byteCells_length]; exact hlen) hB).mono ?_
  rintro e w' ⟨rfl, h1, h2, h3⟩
  exact ⟨rfl, .inr (by rw [byteCells_append]; exact h1), h2, h3⟩
theorem wbyte (B bb : Nat) (l : List UInt8) (c : UInt8) (w : World) (h : Bld B bb l w) (hlen : l.length + 1 ≤ 140737488355328) (hB : B ≤ w.heap.size) :
    Calls Tryz.prog 83 #[.pointer (some ⟨bb, 0, none⟩), .int .u8 c.toNat] w fun e w' => e = .returned .nilIface ∧ Bld B bb (l ++ [c]) w' ∧ BKept B bb w w' := by
  refine (Tryz.WriteByte B bb (Lib.byteCells l) c.toNat w h (by rw [Lib.byteCells_length]; exact hlen) hB).mono ?_
  rintro e w' ⟨rfl, h1, h2, h3⟩
  exact ⟨rfl, .inr (by rw [byteCells_append]; exact h1), h2, h3⟩
theorem boxed_cell {w : World} {x bb : Nat} (h : w.heap[x]? = some (.cells #[.pointer (some ⟨bb, 0, none⟩)] 64 (0, 0))) : w.cell? ⟨x, 0, none⟩ = some (.pointer (some ⟨bb, 0, none⟩)) := by
  simp [World.cell?, h]
theorem BKept.box {B bb x : Nat} {w w' : World} (h : BKept B bb w w') (hx : w.heap[x]? = some (.cells #[.pointer (some ⟨bb, 0, none⟩)] 64 (0, 0))) (hne : x ≠ bb) : w'.heap[x]? = some (.cells #[.pointer (some ⟨bb, 0, none⟩)] 64 (0, 0)) :=
  h.others x _ hx (fun e => hne (Option.some.inj e)) (fun c fz e => by injection e with _ e2; exact absurd e2 (by decide))
set_option maxHeartbeats 1000000 in
set_option maxRecDepth 100000 in
theorem end_calls (B bb x : Nat) (l : List UInt8) (s : ByteArray) (w : World) (h : Bld B bb l w) (hlen : l.length + s.size + 1 ≤ 140737488355328) (hB : B ≤ w.heap.size) (hx : w.heap[x]? = some (.cells #[.pointer (some ⟨bb, 0, none⟩)] 64 (0, 0))) (hne : x ≠ bb) :
    Calls Tryz.prog 82 #[.string s, .pointer (some ⟨x, 0, none⟩)] w fun e w' => e = .returned (.tuple #[]) ∧ Bld B bb (l ++ (s.data.toList ++ [10])) w' ∧ BKept B bb w w' := by
  have hc := boxed_cell hx
  have H := Aside0.mk h
  have HX := Aside0.mk hx
  clear h hx
  go_enter Tryz.func82, Tryz.ntmps82
  go_wp2_with fail
  refine (wstr B bb l s w H.out (by omega) hB).mono ?_
  rintro e w1 ⟨rfl, h1, k1⟩
  have H1 := Aside0.mk h1
  have hB1 : B ≤ w1.heap.size := by have := k1.below.size; omega
  have hx1 := k1.box HX.out hne
  have hc1 := boxed_cell hx1
  have K1 := Aside0.mk k1
  clear h1 k1 hx1
  go_wp2_with fail
  refine (wbyte B bb (l ++ s.data.toList) 10 w1 H1.out (by simp; omega) hB1).mono ?_
  rintro e w2 ⟨rfl, h2, k2⟩
  have H2 := Aside0.mk h2
  have K2 := Aside0.mk k2
  clear h2 k2
  go_wp2_with fail
  go_end0
  exact ⟨rfl, by rw [← List.append_assoc]; exact H2.out, K1.out.trans K2.out⟩
def foldL : Nat → ByteArray → Nat → List UInt8
  | 0, s, _ => s.data.toList ++ [10]
  | f + 1, s, bound =>
    if s.size ≤ 78 then s.data.toList ++ [10]
    else if 0 < foldAtS s bound then (s.extract 0 (foldAtS s bound)).data.toList ++ [10] ++ foldL f (s.extract (foldAtS s bound) s.size) 0
    else if s.size ≤ 998 then s.data.toList ++ [10]
    else (s.extract 0 998).data.toList ++ [10] ++ foldL f (⟨#[32]⟩ ++ s.extract 998 s.size) 0
theorem downTo_le (p : Nat → Bool) (lo n : Nat) : downTo p lo n ≤ n := by
  induction n with
  | zero => exact Nat.le_refl _
  | succ n ih => unfold downTo; split <;> (try split) <;> omega
theorem upTo_lt (p : Nat → Bool) : ∀ f i, (upTo p i f < i + f ∧ 0 < f) ∨ upTo p i f = 0
  | 0, i => .inr rfl
  | f + 1, i => by
    unfold upTo
    split
    · left; omega
    · rcases upTo_lt p f (i + 1) with h | h
      · left; omega
      · right; exact h
theorem foldAtS_le (s : ByteArray) (bound : Nat) : foldAtS s bound ≤ s.size := by
  unfold foldAtS
  simp only
  split
  · rcases upTo_lt (isFoldB s) (min 998 (s.size - 2) - max 78 bound) (max 78 bound + 1) with h | h <;> omega
  · have := downTo_le (isFoldB s) bound (min 78 (min 998 (s.size - 2)))
    omega
def FoldRest (l : List UInt8) (s0 : ByteArray) (b0 : Nat) (l' : List UInt8) (s : ByteArray) (b : Nat) : Prop :=
  ∃ f, s.size ≤ f ∧ l ++ foldL s0.size s0 b0 = l' ++ foldL f s b
theorem FoldRest.cut {l : List UInt8} {s0 : ByteArray} {b0 : Nat} {l' : List UInt8} {s : ByteArray} {b : Nat} (h : FoldRest l s0 b0 l' s b) (h78 : 78 < s.size) (hi : 0 < foldAtS s b) :
    FoldRest l s0 b0 (l' ++ ((s.extract 0 (foldAtS s b)).data.toList ++ [10])) (s.extract (foldAtS s b) s.size) 0 := by
  obtain ⟨f, hf, e⟩ := h
  obtain ⟨f, rfl⟩ : ∃ g, f = g + 1 := ⟨f - 1, by omega⟩
  refine ⟨f, by simp; omega, ?_⟩
  rw [e]
  conv => lhs; unfold foldL
  rw [if_neg (by omega), if_pos hi]
  simp
theorem FoldRest.hard {l : List UInt8} {s0 : ByteArray} {b0 : Nat} {l' : List UInt8} {s : ByteArray} {b : Nat} (h : FoldRest l s0 b0 l' s b) (h78 : 78 < s.size) (hi : ¬ 0 < foldAtS s b) (h998 : ¬ s.size ≤ 998) :
    FoldRest l s0 b0 (l' ++ ((s.extract 0 998).data.toList ++ [10])) (⟨#[32]⟩ ++ s.extract 998 s.size) 0 := by
  obtain ⟨f, hf, e⟩ := h
  obtain ⟨f, rfl⟩ : ∃ g, f = g + 1 := ⟨f - 1, by omega⟩
  refine ⟨f, ?_, ?_⟩
  · rw [ByteArray.size_append]
    have : (⟨#[32]⟩ : ByteArray).size = 1 := rfl
    simp
    omega
  rw [e]
  conv => lhs; unfold foldL
  rw [if_neg (by omega), if_neg hi, if_neg h998]
  simp
theorem FoldRest.stop {l : List UInt8} {s0 : ByteArray} {b0 : Nat} {l' : List UInt8} {s : ByteArray} {b : Nat} (h : FoldRest l s0 b0 l' s b) (hs : s.size ≤ 78 ∨ (¬ 0 < foldAtS s b ∧ s.size ≤ 998)) :
    l ++ foldL s0.size s0 b0 = l' ++ (s.data.toList ++ [10]) := by
  obtain ⟨f, hf, e⟩ := h
  rw [e]
  cases f with
  | zero => rfl
  | succ f =>
    unfold foldL
    rcases hs with h | ⟨h1, h2⟩
    · rw [if_pos h]
    · by_cases h3 : s.size ≤ 78
      · rw [if_pos h3]
      · rw [if_neg h3, if_neg h1, if_pos h2]
set_option maxHeartbeats 2000000 in
set_option maxRecDepth 100000 in
theorem fold_calls (B bb : Nat) (l : List UInt8) (s : ByteArray) (bound : Nat) (w : World) (h : Bld B bb l w) (hb : bound ≤ 1000) (hlen : l.length + 2 * s.size + 2 ≤ 1099511627776) (hB : B ≤ w.heap.size) :
    Calls Tryz.prog 56 #[.pointer (some ⟨bb, 0, none⟩), .string s, .int .i64 bound] w fun e w' => e = .returned (.tuple #[]) ∧ Bld B bb (l ++ foldL s.size s bound) w' ∧ BKept B bb w w' := by
  obtain ⟨W, hW⟩ : ∃ W, W = w.alloc (Obj.cells #[.pointer (some ⟨bb, 0, none⟩)] 64) := ⟨_, rfl⟩
  have hbel : Below w.heap.size w W := by rw [hW]; exact (Below.refl _ _).alloc (Nat.le_refl _) _
  have hx : W.heap[w.heap.size]? = some (.cells #[.pointer (some ⟨bb, 0, none⟩)] 64 (0, 0)) := by rw [hW]; exact heap_alloc_new w _
  have hsz : W.heap.size = w.heap.size + 1 := by rw [hW, World.size_alloc]
  have hlt : bb < w.heap.size := by
    rcases h with ⟨_, v, h2, _⟩ | ⟨_, v, h2, _⟩ <;> exact (Array.getElem?_eq_some_iff.1 h2).1
  have h0 : Bld B bb l W := h.keep hbel
  have hk0 : BKept B bb w W := (BKept.refl B bb w).made hbel hB
  have HW := Aside0.mk hW
  clear hW h hbel
  go_enter Tryz.func56, Tryz.ntmps56
  go_wp2_with fail
  go_step3
  go_wp2_with fail
  go_step3
  go_wp2_with fail
  rw [← HW.out]
  have hne : w.heap.size ≠ bb := by omega
  go_loopw [1, 2] (fun v b wr => ∃ (l' : List UInt8) (s1 : ByteArray) (b1 : Nat), v = .string s1 ∧ b = .int .i64 b1 ∧ b1 ≤ 1000 ∧ l'.length + 2 * s1.size + 2 ≤ 1099511627776 ∧ Aside0 (FoldRest l s bound l' s1 b1) ∧ Aside0 (Bld B bb l' wr) ∧ Aside0 (BKept B bb w wr) ∧ Aside0 (wr.heap[w.heap.size]? = some (.cells #[.pointer (some ⟨bb, 0, none⟩)] 64 (0, 0)))) (fun v _ _ => match v with | .string x => x.size | _ => 0)
  case atStart => exact ⟨l, s, bound, rfl, rfl, hb, hlen, ⟨s.size, Nat.le_refl _, rfl⟩, ⟨h0⟩, ⟨hk0⟩, ⟨hx⟩⟩
  case round =>
    clear h0 hk0 hx hsz
    obtain ⟨l', s1, b1, rfl, rfl, hb1, hl1, hf, hbl, hkp, hxx⟩ := hrel
    by_cases h78 : 78 < s1.size
    · obtain ⟨i, hi⟩ : ∃ i, i = foldAtS s1 b1 := ⟨_, rfl⟩
      have hile : i ≤ s1.size := by rw [hi]; exact foldAtS_le s1 b1
      have hcall := foldAt_calls s1 b1 wr (by omega) h78 hb1
      rw [← hi] at hcall
      have HC := Aside0.mk hcall
      have hsw : ∀ w1, Below wr.heap.size wr w1 → Aside0 (Bld B bb l' w1) ∧ Aside0 (BKept B bb w w1) ∧ Aside0 (w1.heap[w.heap.size]? = some (.cells #[.pointer (some ⟨bb, 0, none⟩)] 64 (0, 0))) ∧ Aside0 (B ≤ w1.heap.size) := fun w1 hb2 =>
        ⟨⟨hbl.out.keep hb2⟩, ⟨hkp.out.made hb2 (by have := hkp.out.below.size; omega)⟩, ⟨(hb2.block _ (Array.getElem?_eq_some_iff.1 hxx.out).1).trans hxx.out⟩, ⟨by have := hkp.out.below.size; have := hb2.size; omega⟩⟩
      have HSW := Aside0.mk hsw
      have HI := Lib.hid hi
      clear hcall hsw hbl hkp hxx hi
      by_cases h0 : 0 < i
      · go_wp2_with fail
        refine (HC.out).mono ?_
        rintro e w1 ⟨rfl, hb2⟩
        obtain ⟨hbl, hkp, hxx, hB1⟩ := HSW.out w1 hb2
        clear hb2 HSW HC
        go_wp2_with fail
        refine (end_calls B bb w.heap.size l' (s1.extract 0 i) w1 hbl.out (by simp; omega) hB1.out hxx.out hne).mono ?_
        rintro e w2 ⟨rfl, h2, k2⟩
        have H2 := Aside0.mk h2
        have K2 := Aside0.mk k2
        clear h2 k2
        go_wp2_with fail
        go_roundw
        case rel => exact ⟨l' ++ ((s1.extract 0 i).data.toList ++ [10]), s1.extract i s1.size, 0, rfl, rfl, by omega, by simp; omega, ⟨by have := hf.out.cut h78 (by rw [← HI.out]; exact h0); rw [← HI.out] at this; exact this⟩, H2, ⟨hkp.out.trans K2.out⟩, ⟨K2.out.box hxx.out hne⟩⟩
        case measure => simp; omega
      · by_cases h998 : s1.size ≤ 998
        · go_wp2_with fail
          refine (HC.out).mono ?_
          rintro e w1 ⟨rfl, hb2⟩
          obtain ⟨hbl, hkp, hxx, hB1⟩ := HSW.out w1 hb2
          clear hb2 HSW HC
          go_wp2_with fail
          refine (end_calls B bb w.heap.size l' s1 w1 hbl.out (by omega) hB1.out hxx.out hne).mono ?_
          rintro e w2 ⟨rfl, h2, k2⟩
          have H2 := Aside0.mk h2
          have K2 := Aside0.mk k2
          clear h2 k2
          go_wp2_with fail
          rw [Exit.noGoto_normal]
          go_end0
          have hs := hf.out.stop (.inr ⟨by rw [← HI.out]; exact h0, h998⟩)
          exact ⟨rfl, by rw [hs]; exact H2.out, hkp.out.trans K2.out⟩
        · go_wp2_with fail
          refine (HC.out).mono ?_
          rintro e w1 ⟨rfl, hb2⟩
          obtain ⟨hbl, hkp, hxx, hB1⟩ := HSW.out w1 hb2
          clear hb2 HSW HC
          go_wp2_with fail
          refine (end_calls B bb w.heap.size l' (s1.extract 0 998) w1 hbl.out (by simp; omega) hB1.out hxx.out hne).mono ?_
          rintro e w2 ⟨rfl, h2, k2⟩
          have H2 := Aside0.mk h2
          have K2 := Aside0.mk k2
          clear h2 k2
          go_wp2_with fail
          go_roundw
          case rel => exact ⟨l' ++ ((s1.extract 0 998).data.toList ++ [10]), ⟨#[32]⟩ ++ s1.extract 998 s1.size, 0, rfl, rfl, by omega, by rw [ByteArray.size_append, show (⟨#[32]⟩ : ByteArray).size = 1 from rfl]; simp; omega, ⟨hf.out.hard h78 (by rw [← HI.out]; exact h0) h998⟩, H2, ⟨hkp.out.trans K2.out⟩, ⟨K2.out.box hxx.out hne⟩⟩
          case measure => simp [show (⟨#[32]⟩ : ByteArray).size = 1 from rfl]; omega
    · go_wp2_with fail
      refine (end_calls B bb w.heap.size l' s1 wr hbl.out (by omega) (by have := hkp.out.below.size; omega) hxx.out hne).mono ?_
      rintro e w2 ⟨rfl, h2, k2⟩
      have H2 := Aside0.mk h2
      have K2 := Aside0.mk k2
      clear h2 k2
      go_wp2_with fail
      rw [Exit.noGoto_normal]
      go_end0
      have hs := hf.out.stop (.inl (by omega))
      exact ⟨rfl, by rw [hs]; exact H2.out, hkp.out.trans K2.out⟩
end Go.Proofs.YtieompfmhnpnaaaGreat.H
end
section
namespace Go.Proofs.YtieompfmhnpnaaaGreat.H
open Go.RowKit Go.Proofs.YtieompfmhnpnaaaGreatW.PrintWords Go.Proofs.YtieompfmhnpnaaaGreatW.PrintLast Go.Proofs.YtieompfmhnpnaaaGreatW.PrintMore
set_option linter.unusedVariables false
set_option linter.unusedSimpArgs false
abbrev bl (s : ByteArray) : List UInt8 := s.data.toList
abbrev mkB (l : List UInt8) : ByteArray := ⟨l.toArray⟩
theorem bl_mkB (l : List UInt8) : bl (mkB l) = l := rfl
theorem mkB_bl (s : ByteArray) : mkB (bl s) = s := rfl
theorem bl_length (s : ByteArray) : (bl s).length = s.size := by simp
theorem mkB_size (l : List UInt8) : (mkB l).size = l.length := by simp [ByteArray.size]
theorem bl_inj {s t : ByteArray} (h : bl s = bl t) : s = t := by rw [← mkB_bl s, ← mkB_bl t, h]
theorem toList_bl (s : ByteArray) : s.toList = bl s := Lib.toList_data s
theorem bl_append (s t : ByteArray) : bl (s ++ t) = bl s ++ bl t := by simp [bl]
theorem bl_extract (s : ByteArray) (i j : Nat) : bl (s.extract i j) = ((bl s).take j).drop i := by
  simp [bl]
  rw [List.drop_take]
theorem ev_yes {α : Type} {c : Prop} [Decidable c] {a b : Nat → Option α} {r : α} (h : c) (k : Ev a r) : Ev (fun n => if c then a n else b n) r := by
  refine Ev.congr (fun n => ?_) k
  rw [if_pos h]
theorem ev_no {α : Type} {c : Prop} [Decidable c] {a b : Nat → Option α} {r : α} (h : ¬ c) (k : Ev b r) : Ev (fun n => if c then a n else b n) r := by
  refine Ev.congr (fun n => ?_) k
  rw [if_neg h]
theorem ev_done {α : Type} {a r : α} (h : a = r) : Ev (fun _ => some a) r := by
  rw [h]
  exact Ev.now r
theorem bt_byteAt (s : ByteArray) (i : Nat) (h : i < s.size) : bt s (i : Int) = ((byteAt s i).toNat : Int) := by
  rw [← bt_at s i (by simpa using h), byteAt_get s _ (by simpa using h)]
  rfl
theorem byteAt_list (s : ByteArray) (i : Nat) (h : i < s.size) : (bl s)[i]? = some (byteAt s i) := by
  unfold byteAt
  rw [List.getElem?_eq_getElem (by rw [bl_length]; exact h), List.getD_eq_getElem?_getD, List.getElem?_eq_getElem (by rw [bl_length]; exact h)]
  rfl
theorem drop_byteAt (s : ByteArray) (i : Nat) (h : i < s.size) : (bl s).drop i = byteAt s i :: (bl s).drop (i + 1) := by
  have hl := bl_length s
  rw [List.drop_eq_getElem_cons (by omega)]
  have := byteAt_list s i h
  rw [List.getElem?_eq_getElem (by omega)] at this
  rw [Option.some.inj this]
theorem take_byteAt (s : ByteArray) (i : Nat) (h : i < s.size) : (bl s).take (i + 1) = (bl s).take i ++ [byteAt s i] := by
  have hl := bl_length s
  rw [List.take_succ_eq_append_getElem (by omega)]
  have := byteAt_list s i h
  rw [List.getElem?_eq_getElem (by omega)] at this
  rw [Option.some.inj this]
theorem wrap_up (i : Nat) (h : i < 4611686018427387904) : wrap64 ((i : Int) + 1) = ((i + 1 : Nat) : Int) := by
  unfold wrap64; omega
theorem wrap_down (i : Nat) (h0 : 0 < i) (h : i < 4611686018427387904) : wrap64 ((i : Int) - 1) = ((i - 1 : Nat) : Int) := by
  unfold wrap64; omega
def wsB (c : UInt8) : Bool := c == 9 || c == 10 || c == 13 || c == 32
theorem u8_eq (c : UInt8) (n : Nat) (hn : n < 256) : (c == UInt8.ofNat n) = decide ((c.toNat : Int) = (n : Int)) := by
  rw [Bool.eq_iff_iff]
  simp
  constructor
  · rintro rfl; simp; omega
  · intro h
    have : c.toNat = n := by omega
    rw [← this]; simp
theorem white_at (c : UInt8) : text_white.f (c.toNat : Int) = some (wsB c) := by
  unfold text_white.f wsB
  have e9 := u8_eq c 9 (by decide)
  have e10 := u8_eq c 10 (by decide)
  have e13 := u8_eq c 13 (by decide)
  have e32 := u8_eq c 32 (by decide)
  simp at e9 e10 e13 e32
  rw [e9, e10, e13, e32]
  by_cases h9 : (c.toNat : Int) = 9
  · simp [h9]
  · by_cases h10 : (c.toNat : Int) = 10
    · simp [h10]
    · by_cases h13 : (c.toNat : Int) = 13
      · simp [h13]
      · rw [if_neg h9, if_neg h10, if_neg h13]
        have g9 : ¬ c.toNat = 9 := by omega
        have g10 : ¬ c.toNat = 10 := by omega
        have g13 : ¬ c.toNat = 13 := by omega
        simp [g9, g10, g13]
        rw [Bool.eq_iff_iff]
        simp
        omega
def rtrim (l : List UInt8) : List UInt8 := (l.reverse.dropWhile wsB).reverse
theorem rtrim_snoc (l : List UInt8) (c : UInt8) : rtrim (l ++ [c]) = if wsB c then rtrim l else l ++ [c] := by
  unfold rtrim
  rw [List.reverse_append]
  simp [List.dropWhile_cons]
  split <;> simp
theorem rtrim_nil : rtrim [] = [] := rfl
def trimL (l : List UInt8) : List UInt8 := rtrim (l.dropWhile wsB)
def trimS (s : ByteArray) : ByteArray := mkB (trimL (bl s))
theorem trim_l1 (s : ByteArray) (hs : s.size ≤ 1099511627776) (i : Nat) : ∀ (n j : Nat), i ≤ j → j ≤ s.size → j - i = n →
    Ev (fun k => text_Trim.l1 k s (i : Int) (j : Int)) (mkB (rtrim (((bl s).take j).drop i)))
  | 0, j, hi, hj, hn => by
    obtain rfl : i = j := by omega
    refine Ev.step (fun k => by simp only [text_Trim.l1]; rfl) ?_
    refine ev_no (by omega) ?_
    refine ev_yes (by omega) ?_
    refine ev_yes (by omega) ?_
    refine ev_yes (by omega) ?_
    have : ((bl s).take i).drop i = [] := by simp
    rw [this, rtrim_nil]
    refine ev_done ?_
    apply bl_inj
    rw [bl_extract]
    simp
  | n + 1, j, hi, hj, hn => by
    have hlt : i < j := by omega
    have hw := wrap_down j (by omega) (by omega)
    refine Ev.step (fun k => by simp only [text_Trim.l1]; rfl) ?_
    have h1 : (i : Int) < (j : Int) := by omega
    have h2 : 0 ≤ ((j - 1 : Nat) : Int) := by omega
    have h3 : ((j - 1 : Nat) : Int) < (s.size : Int) := by omega
    have hb := bt_byteAt s (j - 1) (by omega)
    have ht := take_byteAt s (j - 1) (by omega)
    rw [show j - 1 + 1 = j from by omega] at ht
    have hd : ((bl s).take j).drop i = ((bl s).take (j - 1)).drop i ++ [byteAt s (j - 1)] := by
      rw [ht, List.drop_append_of_le_length (by rw [List.length_take, bl_length]; omega)]
    refine ev_yes h1 ?_
    simp only [hw]
    refine ev_yes h2 (ev_yes h3 ?_)
    simp only [hb, white_at, Option.bind_some]
    rw [hd, rtrim_snoc]
    by_cases hws : wsB (byteAt s (j - 1)) = true
    · rw [hws]
      exact ev_yes rfl (trim_l1 s hs i n (j - 1) (by omega) (by omega) (by omega))
    · have hws' : wsB (byteAt s (j - 1)) = false := by simpa using hws
      rw [hws']
      refine ev_no (by decide) ?_
      refine ev_yes (by omega) (ev_yes (by omega) (ev_yes (by omega) ?_))
      refine ev_done ?_
      apply bl_inj
      rw [bl_extract, if_neg (by decide), bl_mkB, ← hd]
      simp
theorem trim_l0 (s : ByteArray) (hs : s.size ≤ 1099511627776) : ∀ (n i : Nat), i + n = s.size →
    Ev (fun k => text_Trim.l0 k s (i : Int) (s.size : Int)) (mkB (trimL ((bl s).drop i)))
  | 0, i, hi => by
    have hl := bl_length s
    refine Ev.step (fun k => by simp only [text_Trim.l0]; rfl) ?_
    refine ev_no (by omega) ?_
    refine Ev.step (fun k => by simp only [text_Trim.j1]; rfl) ?_
    have := trim_l1 s hs i 0 s.size (by omega) (by omega) (by omega)
    have e : (bl s).drop i = [] := List.drop_of_length_le (by omega)
    rw [e]
    rw [List.take_of_length_le (by omega), e] at this
    exact this
  | n + 1, i, hi => by
    have hl := bl_length s
    refine Ev.step (fun k => by simp only [text_Trim.l0]; rfl) ?_
    have hb := bt_byteAt s i (by omega)
    refine ev_yes (by omega) ?_
    refine ev_yes (by omega) ?_
    refine ev_yes (by omega) ?_
    simp only [hb, white_at, Option.bind_some]
    rw [drop_byteAt s i (by omega)]
    by_cases hws : wsB (byteAt s i) = true
    · simp only [hws, if_true]
      have e : trimL (byteAt s i :: (bl s).drop (i + 1)) = trimL ((bl s).drop (i + 1)) := by
        unfold trimL
        rw [List.dropWhile_cons_of_pos hws]
      rw [e, wrap_up i (by omega)]
      exact trim_l0 s hs n (i + 1) (by omega)
    · simp only [hws, if_false]
      refine Ev.step (fun k => by simp only [text_Trim.j1]; rfl) ?_
      have := trim_l1 s hs i (s.size - i) s.size (by omega) (by omega) (by omega)
      rw [List.take_of_length_le (by omega), drop_byteAt s i (by omega)] at this
      unfold trimL
      rw [List.dropWhile_cons_of_neg hws]
      exact this
theorem trim_ev (s : ByteArray) (hs : s.size ≤ 1099511627776) : Ev (fun k => text_Trim.f k s) (trimS s) := by
  have := trim_l0 s hs s.size 0 (by omega)
  simpa [text_Trim.f, trimS] using this
theorem trim_size (s : ByteArray) : (trimS s).size ≤ s.size := by
  unfold trimS
  rw [mkB_size]
  have h1 : (trimL (bl s)).length ≤ (bl s).length := by
    unfold trimL rtrim
    rw [List.length_reverse]
    refine Nat.le_trans (List.dropWhile_suffix _).length_le ?_
    rw [List.length_reverse]
    exact (List.dropWhile_suffix _).length_le
  rw [bl_length] at h1
  exact h1
def visB (c : UInt8) : Bool := 33 ≤ c.toNat && c.toNat ≤ 126
theorem visible_at (c : UInt8) : header_visible.f (c.toNat : Int) = some (visB c) := by
  unfold header_visible.f visB
  by_cases h : 33 ≤ c.toNat
  · rw [if_pos (by omega)]
    simp [h]
    omega
  · rw [if_neg (by omega)]
    simp [h]
def isNameB (s : ByteArray) : Bool := 1 ≤ s.size && s.size ≤ 200 && (bl s).all (fun c => visB c && c != 58)
theorem isName_l0 (s : ByteArray) (hs : s.size ≤ 1099511627776) : ∀ (n i : Nat), i + n = s.size →
    Ev (fun k => header_isName.l0 k s (s.size : Int) (i : Int)) (((bl s).drop i).all (fun c => visB c && c != 58))
  | 0, i, hi => by
    have hl := bl_length s
    refine Ev.step (fun k => by simp only [header_isName.l0]; rfl) ?_
    refine ev_no (by omega) ?_
    exact ev_done (by rw [List.drop_of_length_le (by omega)]; rfl)
  | n + 1, i, hi => by
    refine Ev.step (fun k => by simp only [header_isName.l0]; rfl) ?_
    have hb := bt_byteAt s i (by omega)
    refine ev_yes (by omega) ?_
    refine ev_yes (by omega) ?_
    refine ev_yes (by omega) ?_
    simp only [hb, visible_at, Option.bind_some]
    rw [drop_byteAt s i (by omega), List.all_cons]
    have e58 := u8_eq (byteAt s i) 58 (by decide)
    simp at e58
    by_cases hv : visB (byteAt s i) = true
    · simp only [hv, if_true, Bool.true_and]
      by_cases h58 : ((byteAt s i).toNat : Int) = 58
      · have h58' : (byteAt s i).toNat = 58 := by omega
        have h2 : (byteAt s i != 58) = false := by
          rw [bne_eq_false_iff_eq]
          exact UInt8.toNat_inj.1 (by simpa using h58')
        rw [h2]
        simp only [if_pos h58, Bool.false_and]
        exact Ev.now _
      · have h2 : (byteAt s i != 58) = true := by
          rw [bne_iff_ne]
          intro h
          rw [h] at h58
          exact h58 rfl
        rw [h2]
        simp only [Bool.true_and]
        refine ev_no h58 ?_
        rw [wrap_up i (by omega)]
        exact isName_l0 s hs n (i + 1) (by omega)
    · have hv' : visB (byteAt s i) = false := by simpa using hv
      simp only [hv', Bool.false_and]
      exact Ev.now _
theorem isName_ev (s : ByteArray) (hs : s.size ≤ 1099511627776) : Ev (fun k => header_isName.f k s) (isNameB s) := by
  unfold header_isName.f isNameB
  by_cases h1 : s.size < 1
  · simp only [show ((s.size : Int) < 1) from by omega, if_true]
    refine Ev.step (fun k => by simp only [header_isName.j0]; rfl) ?_
    have : decide (1 ≤ s.size) = false := by simpa using h1
    simp only [if_true, this, Bool.false_and]
    exact Ev.now _
  · simp only [show ¬ ((s.size : Int) < 1) from by omega, if_false]
    refine Ev.step (fun k => by simp only [header_isName.j0]; rfl) ?_
    by_cases h2 : s.size > 200
    · have e : decide ((s.size : Int) > 200) = true := by simp; omega
      have e2 : decide (s.size ≤ 200) = false := by simp; omega
      simp only [e, if_true, e2, Bool.and_false, Bool.false_and]
      exact Ev.now _
    · have e : decide ((s.size : Int) > 200) = false := by simp; omega
      have e2 : decide (s.size ≤ 200) = true := by simp; omega
      have e1 : decide (1 ≤ s.size) = true := by simp; omega
      simp only [e, e1, e2, Bool.and_true, Bool.true_and]
      have := isName_l0 s hs s.size 0 (by omega)
      simpa using this
end Go.Proofs.YtieompfmhnpnaaaGreat.H
end
section
namespace Go.Proofs.YtieompfmhnpnaaaGreat.H
open Go.RowKit Go.Proofs.YtieompfmhnpnaaaGreatW.PrintWords Go.Proofs.YtieompfmhnpnaaaGreatW.PrintLast Go.Proofs.YtieompfmhnpnaaaGreatW.PrintMore
set_option linter.unusedVariables false
set_option linter.unusedSimpArgs false
def crlfS (s : ByteArray) : ByteArray := tabS s (tab2 13 32 10 32)
def lineS (f : S35) : ByteArray :=
  if (trimS (crlfS f.f1)).size = 0 then f.f0 ++ ⟨#[58]⟩ else (f.f0 ++ ⟨#[58]⟩) ++ (⟨#[32]⟩ ++ trimS (crlfS f.f1))
def fieldL (f : S35) : List UInt8 := if isNameB f.f0 then foldL (lineS f).size (lineS f) (f.f0.size + 1) else []
def writeL (l : List S35) : List UInt8 := l.flatMap fieldL
def wsum (l : List S35) : Nat := (l.map fun f => 4 * (f.f0.size + f.f1.size) + 16).sum
theorem foldL_length : ∀ (f : Nat) (s : ByteArray) (b : Nat), (foldL f s b).length ≤ 2 * s.size + 1
  | 0, s, b => by unfold foldL; simp; omega
  | f + 1, s, b => by
    unfold foldL
    split
    · simp; omega
    · split
      · have := foldL_length f (s.extract (foldAtS s b) s.size) 0
        have := foldAtS_le s b
        simp at *
        omega
      · split
        · simp; omega
        · have := foldL_length f (⟨#[32]⟩ ++ s.extract 998 s.size) 0
          rw [ByteArray.size_append, show (⟨#[32]⟩ : ByteArray).size = 1 from rfl] at this
          simp at *
          omega
theorem tabS_size (s : ByteArray) (t : List Int) : (tabS s t).size = s.size := by
  unfold tabS
  rw [strOfNums_size]
  simp
theorem lineS_size (f : S35) : (lineS f).size ≤ f.f0.size + f.f1.size + 2 := by
  have h := trim_size (crlfS f.f1)
  have h2 := tabS_size f.f1 (tab2 13 32 10 32)
  unfold crlfS at h
  unfold lineS crlfS
  have z1 : (⟨#[58]⟩ : ByteArray).size = 1 := rfl
  have z2 : (⟨#[32]⟩ : ByteArray).size = 1 := rfl
  split
  · rw [ByteArray.size_append, z1]; omega
  · rw [ByteArray.size_append, ByteArray.size_append, ByteArray.size_append, z1, z2]; omega
theorem fieldL_length (f : S35) : (fieldL f).length ≤ 4 * (f.f0.size + f.f1.size) + 16 := by
  unfold fieldL
  split
  · have := foldL_length (lineS f).size (lineS f) (f.f0.size + 1)
    have := lineS_size f
    omega
  · simp
theorem keep_far {W w w' : World} {b : Nat} (h : Below W.heap.size w w') (hb : b < W.heap.size) {j : Nat} : w'.cell? ⟨b, j, none⟩ = w.cell? ⟨b, j, none⟩ := h.cell (p := ⟨b, j, none⟩) hb
theorem new_replacer_at (x0 x1 x2 x3 : ByteArray) (W : World) (b : Nat) (hb : b = W.heap.size) :
    Calls Tryz.prog 52 #[.slice (some ⟨b, 0, none⟩) 4 4] (W.alloc (.cells #[.string x0, .string x1, .string x2, .string x3] 9)) fun e w' => ∃ g, e = .returned (.pointer (some ⟨g, 0, none⟩)) ∧ NewRep W.heap.size w' g 0 x0 x1 x2 x3 ∧ Below W.heap.size W w' := by
  subst hb
  refine (new_replacer W.heap.size x0 x1 x2 x3 _ (by simp) (by simp) (by simp) (by simp)).mono ?_
  rintro e w' ⟨g, rfl, hr, hb⟩
  rw [World.size_alloc] at hr hb
  refine ⟨g, rfl, ?_, ((Below.refl _ _).alloc (Nat.le_refl _) _).trans (hb.mono (by omega))⟩
  obtain ⟨h1, h2, h3, h4, h5, h, cap, h6, h7⟩ := hr
  exact ⟨by omega, h2, h3, h4, h5, h, cap, by omega, h7⟩
theorem le_sum : ∀ {l : List Nat} {x : Nat}, x ∈ l → x ≤ l.sum
  | y :: l, x, h => by
    rw [List.sum_cons]
    rcases List.mem_cons.1 h with rfl | h
    · omega
    · have := le_sum h
      omega
theorem wsum_cons (x : S35) (l : List S35) : wsum (x :: l) = 4 * (x.f0.size + x.f1.size) + 16 + wsum l := by simp [wsum]
theorem wsum_len (l : List S35) : 16 * l.length ≤ wsum l := by
  induction l with
  | nil => simp
  | cons x l ih => rw [wsum_cons, List.length_cons]; omega
theorem wsum_at (l : List S35) (k : Nat) (h : k < l.length) : 4 * ((rd_T35 l (k : Int)).f0.size + (rd_T35 l (k : Int)).f1.size) + 16 ≤ wsum l := by
  have e : rd_T35 l (k : Int) = l[k] := by simp [rd_T35, List.getD, h]
  rw [e]
  unfold wsum
  have : 4 * (l[k].f0.size + l[k].f1.size) + 16 ∈ l.map (fun f => 4 * (f.f0.size + f.f1.size) + 16) := List.mem_map.2 ⟨l[k], List.getElem_mem h, rfl⟩
  exact le_sum this
theorem writeL_take (l : List S35) (k : Nat) (h : k < l.length) : writeL (l.take (k + 1)) = writeL (l.take k) ++ fieldL (rd_T35 l (k : Int)) := by
  have e : rd_T35 l (k : Int) = l[k] := by simp [rd_T35, List.getD, h]
  rw [e, List.take_succ_eq_append_getElem h]
  unfold writeL
  rw [List.flatMap_append]
  simp only [List.flatMap_cons, List.flatMap_nil, List.append_nil]
theorem writeL_length (l : List S35) : (writeL l).length ≤ wsum l := by
  induction l with
  | nil => simp [writeL, wsum]
  | cons x l ih =>
    have := fieldL_length x
    rw [wsum_cons]
    unfold writeL at *
    rw [List.flatMap_cons, List.length_append]
    omega
theorem wsum_take (l : List S35) (k : Nat) : wsum (l.take k) ≤ wsum l := by
  unfold wsum
  have : l = l.take k ++ l.drop k := (List.take_append_drop k l).symm
  conv => rhs; rw [this]
  rw [List.map_append, List.sum_append]
  omega
set_option maxHeartbeats 4000000 in
set_option maxRecDepth 100000 in
theorem write_calls (A0 : Option Addr) (c0 : Nat) (l0 : List S35) (w : World) (hr0 : Kd.C k35 w A0 l0.length l0) (hc0 : l0.length ≤ c0) (hs : wsum l0 ≤ 137438953472) :
    Calls Tryz.prog 21 #[.slice A0 l0.length c0] w fun e w' => e = .returned (.string (mkB (writeL l0))) ∧ Below w.heap.size w w' := by
  have hu35 := Tryz.underlying35
  have HR0 := Aside0.mk hr0
  clear hr0
  go_enter Tryz.func21, Tryz.ntmps21
  go_wp2_with fail
  obtain ⟨W, hW⟩ : ∃ W, W = w.alloc (Obj.cells #[Value.pointer none, Value.slice none 0 0] 66) := ⟨_, rfl⟩
  have hb0 : Bld w.heap.size w.heap.size [] W := by
    rw [hW]
    rcases Lib.fresh_isBuilder 66 5 w with h | h
    · exact .inl (Lib.BuilderAtF.of h)
    · exact .inr (Lib.BuilderAtF.of h)
  have hB0 : Below w.heap.size w W := by rw [hW]; exact (Below.refl _ _).alloc (Nat.le_refl _) _
  rw [← hW]
  clear hW
  go_loopw [10] (fun v wr => ∃ k : Nat, k ≤ l0.length ∧ v = .int .i64 k ∧ Aside0 (Bld w.heap.size w.heap.size (writeL (l0.take k)) wr) ∧ Aside0 (Below w.heap.size w wr)) (fun v _ => l0.length - (intOf v).toNat)
  case atStart => exact ⟨0, Nat.zero_le _, rfl, ⟨hb0⟩, ⟨hB0⟩⟩
  case round =>
    clear hb0 hB0
    obtain ⟨k, hk, rfl, hbl, hbel⟩ := hrel
    by_cases hlt : k < l0.length
    · obtain ⟨ad, rfl, hx0, hx1⟩ := at_T35 HR0.out (k : Int) (by omega) (by omega)
      obtain ⟨x, hx⟩ : ∃ x, x = rd_T35 l0 (k : Int) := ⟨_, rfl⟩
      rw [← hx] at hx0 hx1
      replace hx0 := (hbel.out.cell (World.block_lt_of_cell? w _ hx0)).trans hx0
      replace hx1 := (hbel.out.cell (World.block_lt_of_cell? w _ hx1)).trans hx1
      simp only [Int.toNat_natCast] at hx0 hx1
      have hsum := wsum_at l0 k hlt
      rw [← hx] at hsum
      have hlen := wsum_len l0
      have hout := Nat.le_trans (writeL_length (l0.take k)) (wsum_take l0 k)
      have hnext := writeL_take l0 k hlt
      rw [← hx] at hnext
      have HX := Lib.hid hx
      have HN := Lib.hid hnext
      clear hx hnext
      obtain ⟨kn, hkn⟩ := (isName_ev x.f0 (by omega)).rounds
      have HKN := Aside0.mk hkn
      clear hkn
      have hBsz := hbel.out.size
      obtain ⟨fb, hfb⟩ : ∃ fb, fb = wr.heap.size := ⟨_, rfl⟩
      obtain ⟨w1, hw1⟩ : ∃ w1, w1 = wr.alloc (.cells #[.string x.f0, .string x.f1] 35) := ⟨_, rfl⟩
      have hb1 : Below wr.heap.size wr w1 := by rw [hw1]; exact (Below.refl _ _).alloc (Nat.le_refl _) _
      have hc0' : w1.cell? ⟨fb, 0, none⟩ = some (.string x.f0) := by rw [hw1, hfb]; simp
      have hc1' : w1.cell? ⟨fb, 1, none⟩ = some (.string x.f1) := by rw [hw1, hfb]; simp
      have hlt1 : fb < w1.heap.size := by rw [hw1, hfb, World.size_alloc]; omega
      have HB1 := Aside0.mk hb1
      have HW1 := Aside0.mk hw1
      have HFB := Aside0.mk hfb
      clear hb1 hw1 hfb
      by_cases hnm : isNameB x.f0 = true
      · rw [hnm] at HKN
        have HNM := Lib.hid hnm
        clear hnm
        have hf1 : x.f1.size ≤ 1099511627776 := by omega
        obtain ⟨kt, hkt⟩ := (trim_ev (tabS x.f1 (tab2 13 32 10 32)) (by rw [tabS_size]; omega)).rounds
        have HT := Aside0.mk hkt
        clear hkt
        go_wp2_with fail
        rw [← HW1.out, ← HFB.out]
        refine (header_isName.calls kn _ _ _ HKN.out).mono ?_
        rintro e w2 ⟨rfl, ⟨n, rfl⟩⟩
        go_wp2_with fail
        go_region_held3 (fun w' => w'.cell? ⟨fb, 1, none⟩ = some (.string x.f1)) (first | go_keep | (exact pw_cell_below (by assumption) (by assumption)) | (exact (keep_far (by assumption) hlt1).trans (by assumption)))
          (first
            | (go_at_call 52; refine (new_replacer_at _ _ _ _ _ _ rfl).mono ?_; rintro e w3 ⟨g3, rfl, hg3, hb3⟩)
            | (go_at_call 53; refine (replace_bytes _ g3 13 32 10 32 _ _ hf1 hb3.size hg3).mono ?_; rintro e w4 ⟨rfl, hb4⟩)
            | (go_at_call 24; refine (text_Trim.calls kt _ _ _ HT.out).mono ?_; rintro e w5 ⟨rfl, ⟨n5, rfl⟩⟩))
        have hb4' : Below w1.heap.size w1 w4 := (pw_below_drewN (Below.refl _ _) _).trans (hb3.trans hb4)
        have hc04 := (keep_far hb4' hlt1 (j := 0)).trans hc0'
        have HB4 := Aside0.mk hb4'
        clear hb3 hb4 hb4' hg3
        obtain ⟨v, hv⟩ : ∃ v, v = trimS (tabS x.f1 (tab2 13 32 10 32)) := ⟨_, rfl⟩
        rw [← hv]
        have hvs : v.size ≤ x.f1.size := by rw [hv]; have := trim_size (tabS x.f1 (tab2 13 32 10 32)); rw [tabS_size] at this; exact this
        have HV := Lib.hid hv
        clear hv
        obtain ⟨line, hline⟩ : ∃ line, line = lineS x := ⟨_, rfl⟩
        have hlsz : line.size ≤ x.f0.size + x.f1.size + 2 := by rw [hline]; exact lineS_size x
        have HLINE := Lib.hid hline
        clear hline
        have hbld : Bld w.heap.size w.heap.size (writeL (l0.take k)) (w4.drewN n5) := ((hbl.out.keep HB1.out).keep HB4.out).keep (pw_below_drewN (Below.refl _ _) n5)
        have HBLD := Aside0.mk hbld
        clear hbld
        have hnsz : x.f0.size ≤ 200 := by
          have := HNM.out
          unfold isNameB at this
          simp at this
          exact this.1.2
        have hszz := HB1.out.size
        by_cases hz : v.size = 0
        · have hve : v.toList.isEmpty = true := by rw [toList_bl, List.isEmpty_iff_length_eq_zero, bl_length]; exact hz
          have hln : line = x.f0 ++ ⟨#[58]⟩ := by rw [HLINE.out]; unfold lineS crlfS; rw [← HV.out, if_pos hz]
          go_wp2_with fail
          rw [show ((x.f0.size : Int) + 1) = ((x.f0.size + 1 : Nat) : Int) from by omega, ← hln]
          refine (fold_calls w.heap.size w.heap.size (writeL (l0.take k)) line (x.f0.size + 1) _ HBLD.out (by omega) (by omega) (by have := HB4.out.size; show w.heap.size ≤ w4.heap.size; omega)).mono ?_
          rintro e w6 ⟨rfl, h6, k6⟩
          have H6 := Aside0.mk h6
          have K6 := Aside0.mk k6
          clear h6 k6
          go_wp2_with fail
          go_roundw
          case rel =>
            refine ⟨k + 1, by omega, by go_num, ⟨?_⟩, ⟨?_⟩⟩
            · rw [HN.out]
              have : fieldL x = foldL line.size line (x.f0.size + 1) := by unfold fieldL; rw [HNM.out, HLINE.out]; rfl
              rw [this]
              exact H6.out
            · exact (pw_below_drewN (hbel.out.trans ((HB1.out.mono hBsz).trans (HB4.out.mono (by omega)))) n5).trans K6.out.below
          case measure => simp [intOf]; omega
        · have hve : v.toList.isEmpty = false := by
            rw [toList_bl]
            cases h : bl v with
            | nil => exfalso; apply hz; rw [← bl_length, h]; rfl
            | cons _ _ => rfl
          have hln : line = (x.f0 ++ ⟨#[58]⟩) ++ (⟨#[32]⟩ ++ v) := by rw [HLINE.out]; unfold lineS crlfS; rw [← HV.out, if_neg hz]
          go_wp2_with fail
          rw [show ((x.f0.size : Int) + 1) = ((x.f0.size + 1 : Nat) : Int) from by omega, ← hln]
          refine (fold_calls w.heap.size w.heap.size (writeL (l0.take k)) line (x.f0.size + 1) _ HBLD.out (by omega) (by omega) (by have := HB4.out.size; show w.heap.size ≤ w4.heap.size; omega)).mono ?_
          rintro e w6 ⟨rfl, h6, k6⟩
          have H6 := Aside0.mk h6
          have K6 := Aside0.mk k6
          clear h6 k6
          go_wp2_with fail
          go_roundw
          case rel =>
            refine ⟨k + 1, by omega, by go_num, ⟨?_⟩, ⟨?_⟩⟩
            · rw [HN.out]
              have : fieldL x = foldL line.size line (x.f0.size + 1) := by unfold fieldL; rw [HNM.out, HLINE.out]; rfl
              rw [this]
              exact H6.out
            · exact (pw_below_drewN (hbel.out.trans ((HB1.out.mono hBsz).trans (HB4.out.mono (by omega)))) n5).trans K6.out.below
          case measure => simp [intOf]; omega
      · have hnm' : isNameB x.f0 = false := by simpa using hnm
        rw [hnm'] at HKN
        have HNM := Lib.hid hnm'
        clear hnm hnm'
        go_wp2_with fail
        rw [← HW1.out, ← HFB.out]
        refine (header_isName.calls kn _ _ _ HKN.out).mono ?_
        rintro e w2 ⟨rfl, ⟨n, rfl⟩⟩
        go_wp2_with fail
        go_roundw
        case rel =>
          refine ⟨k + 1, by omega, by go_num, ⟨?_⟩, ⟨?_⟩⟩
          · rw [HN.out]
            have : fieldL x = [] := by unfold fieldL; rw [HNM.out]; rfl
            rw [this, List.append_nil]
            exact (hbl.out.keep HB1.out).keep (pw_below_drewN (Below.refl _ _) n)
          · exact pw_below_drewN (hbel.out.trans (HB1.out.mono hBsz)) n
        case measure => simp [intOf]; omega
    · have hkk : k = l0.length := by omega
      subst hkk
      go_wp2_with fail
      refine (Tryz.Builder_String_any_k w.heap.size w.heap.size (writeL (l0.take l0.length)) wr hbl.out hbel.out.size).mono ?_
      rintro e w6 ⟨rfl, -, hb6, -⟩
      go_wp2_with fail
      go_ret
      exact ⟨rfl, hbel.out.trans hb6⟩
def header_Write.f (l0 : List S35) : Option ByteArray := if wsum l0 ≤ 137438953472 then some (mkB (writeL l0)) else none
theorem header_Write.calls (A0 : Option Addr) (c0 : Nat) (l0 : List S35) (r : ByteArray) (w : World) (hr0 : Kd.C k35 w A0 l0.length l0) (hc0 : l0.length ≤ c0) (h : header_Write.f l0 = some r) :
    Calls Tryz.prog 21 #[.slice A0 l0.length c0] w fun e w' => e = .returned (.string r) ∧ Below w.heap.size w w' := by
  unfold header_Write.f at h
  by_cases hs : wsum l0 ≤ 137438953472
  · rw [if_pos hs] at h
    obtain rfl := Option.some.inj h
    exact write_calls A0 c0 l0 w hr0 hc0 hs
  · rw [if_neg hs] at h
    cases h
end Go.Proofs.YtieompfmhnpnaaaGreat.H
end
section
namespace Go.Proofs.YtieompfmhnpnaaaGreat.H
open Go.RowKit Go.Proofs.YtieompfmhnpnaaaGreatW.PrintWords Go.Proofs.YtieompfmhnpnaaaGreatW.PrintLast Go.Proofs.YtieompfmhnpnaaaGreatW.PrintMore
set_option linter.unusedVariables false
set_option linter.unusedSimpArgs false
def specB : List UInt8 := [40, 41, 60, 62, 64, 44, 59, 58, 92, 34, 47, 91, 93, 63, 61]
def tokB (c : UInt8) : Bool := visB c && !(specB.contains c)
def isTokenB (s : ByteArray) : Bool := (bl s).all tokB && !(bl s).isEmpty
theorem spec_at (c : UInt8) : (Lib.indexByte specB c ≥ 0) ↔ specB.contains c = true := by
  constructor
  · intro h
    obtain ⟨o, ho⟩ : ∃ o : Nat, Lib.indexByte specB c = o := ⟨(Lib.indexByte specB c).toNat, by omega⟩
    have := (Lib.indexByte_some ho).1
    rw [List.contains_iff_mem]
    exact List.mem_of_getElem? this
  · intro h
    rw [List.contains_iff_mem] at h
    have hge := Lib.indexByte_ge specB c
    rcases Int.lt_or_le (Lib.indexByte specB c) 0 with h0 | h0
    · have h1 : Lib.indexByte specB c = -1 := by omega
      obtain ⟨i, hi, rfl⟩ := List.getElem_of_mem h
      exact absurd (List.getElem?_eq_getElem hi) (Lib.indexByte_none h1 i)
    · exact h0
theorem isToken_l0 (s : ByteArray) (hs : s.size ≤ 1099511627776) : ∀ (n i : Nat), i + n = s.size →
    Ev (fun k => header_isToken.l0 k s (s.size : Int) (i : Int)) (((bl s).drop i).all tokB && !(bl s).isEmpty)
  | 0, i, hi => by
    have hl := bl_length s
    refine Ev.step (fun k => by simp only [header_isToken.l0]; rfl) ?_
    refine ev_no (by omega) ?_
    refine ev_done ?_
    rw [List.drop_of_length_le (by omega), toList_bl]
    cases bl s <;> rfl
  | n + 1, i, hi => by
    refine Ev.step (fun k => by simp only [header_isToken.l0]; rfl) ?_
    have hb := bt_byteAt s i (by omega)
    refine ev_yes (by omega) ?_
    refine ev_yes (by omega) ?_
    refine ev_yes (by omega) ?_
    simp only [hb, visible_at, Option.bind_some]
    rw [drop_byteAt s i (by omega), List.all_cons]
    by_cases hv : visB (byteAt s i) = true
    · have hx : strings_IndexByte.f (⟨#[40, 41, 60, 62, 64, 44, 59, 58, 92, 34, 47, 91, 93, 63, 61]⟩ : ByteArray) ((byteAt s i).toNat : Int) = some (Lib.indexByte specB (byteAt s i)) := by
        unfold strings_IndexByte.f
        simp [specB]
      simp only [hv, if_true, hx, Option.bind_some]
      by_cases hsp : specB.contains (byteAt s i) = true
      · have ht : tokB (byteAt s i) = false := by unfold tokB; rw [hsp]; simp
        rw [ht]
        refine ev_yes ((spec_at _).2 hsp) ?_
        simp only [Bool.false_and]
        exact Ev.now _
      · have ht : tokB (byteAt s i) = true := by
          unfold tokB
          rw [hv]
          simp only [Bool.true_and]
          simpa using hsp
        rw [ht]
        refine ev_no (fun h => hsp ((spec_at _).1 h)) ?_
        simp only [Bool.true_and]
        rw [wrap_up i (by omega)]
        exact isToken_l0 s hs n (i + 1) (by omega)
    · have hv' : visB (byteAt s i) = false := by simpa using hv
      have ht : tokB (byteAt s i) = false := by unfold tokB; rw [hv']; rfl
      simp only [hv', ht, Bool.false_and]
      exact Ev.now _
theorem isToken_ev (s : ByteArray) (hs : s.size ≤ 1099511627776) : Ev (fun k => header_isToken.f k s) (isTokenB s) := by
  unfold header_isToken.f isTokenB
  have := isToken_l0 s hs s.size 0 (by omega)
  simpa using this
end Go.Proofs.YtieompfmhnpnaaaGreat.H
end
section
namespace Go.Proofs.YtieompfmhnpnaaaGreat.H
open Go.RowKit Go.Proofs.YtieompfmhnpnaaaGreatW.PrintWords Go.Proofs.YtieompfmhnpnaaaGreatW.PrintLast Go.Proofs.YtieompfmhnpnaaaGreatW.PrintMore
set_option linter.unusedVariables false
set_option linter.unusedSimpArgs false
def fQ (t n : Nat) (v92 v34 : Value) (j : Nat) : Value := if j = 256 then .slice (some ⟨t, 0, none⟩) n 2 else if j = 92 then v92 else if j = 34 then v34 else .slice none 0 0
def RowQ (W : World) (q t n : Nat) (v92 v34 : Value) : Prop := ∀ j, j < 257 → W.cell? ⟨q, j, none⟩ = some (fQ t n v92 v34 j) ∧ W.frozen? ⟨q, j, none⟩ = false
section
variable {W W' : World} {q t n : Nat} {v92 v34 : Value}
theorem RowQ.setAt (h : RowQ W q t n v92 v34) {k : Nat} {v : Value} {n' : Nat} {a b : Value} (hk : k < 257) (hs : fQ t n' a b k = v) (ho : ∀ j, j < 257 → j ≠ k → fQ t n' a b j = fQ t n v92 v34 j) : RowQ (W.setCell ⟨q, k, none⟩ v) q t n' a b := fun j hj => by
  refine ⟨?_, by rw [World.frozen?_setCell]; exact (h j hj).2⟩
  by_cases e : j = k
  · subst e
    rw [hs]
    exact World.cell?_setCell_same _ _ _ (h j hj).1
  · rw [ho j hj e]
    exact (World.cell?_setCell_other _ ⟨q, k, none⟩ ⟨q, j, none⟩ _ (fun e2 => by injection e2 with _ e3; exact e e3.symm)).trans (h j hj).1
theorem RowQ.set256 (h : RowQ W q t n v92 v34) (n' : Nat) : RowQ (W.setCell ⟨q, 256, none⟩ (.slice (some ⟨t, 0, none⟩) n' 2)) q t n' v92 v34 :=
  h.setAt (by decide) rfl (fun j _ hj => by simp [fQ, hj])
theorem RowQ.set92 (h : RowQ W q t n v92 v34) (v : Value) : RowQ (W.setCell ⟨q, 92, none⟩ v) q t n v v34 :=
  h.setAt (by decide) rfl (fun j _ hj => by simp [fQ, hj])
theorem RowQ.set34 (h : RowQ W q t n v92 v34) (v : Value) : RowQ (W.setCell ⟨q, 34, none⟩ v) q t n v92 v :=
  h.setAt (by decide) rfl (fun j _ hj => by simp [fQ, hj])
theorem RowQ.far (h : RowQ W q t n v92 v34) {g : Nat} (hne : g ≠ q) (j : Nat) (v : Value) : RowQ (W.setCell ⟨g, j, none⟩ v) q t n v92 v34 := fun i hi =>
  ⟨(World.cell?_setCell_far W ⟨g, j, none⟩ ⟨q, i, none⟩ v hne).trans (h i hi).1, by rw [World.frozen?_setCell]; exact (h i hi).2⟩
theorem RowQ.grown {g : Nat} (h : RowQ W q t n v92 v34) (hb : W.grownBy W' (some g)) (hne : g ≠ q) : RowQ W' q t n v92 v34 := fun j hj => by
  have hlt : q < W.heap.size := World.block_lt_of_cell? W _ (h j hj).1
  have hbk := hb.block q hlt (fun e => hne (by injection e with e; exact e.symm))
  exact ⟨(World.cell?_of_block (a := ⟨q, j, none⟩) hbk).trans (h j hj).1, (World.frozen?_of_block (a := ⟨q, j, none⟩) hbk).trans (h j hj).2⟩
theorem RowQ.alloc (h : RowQ W q t n v92 v34) (o : Obj) : RowQ (W.alloc o) q t n v92 v34 := fun j hj => by
  have hlt : q < W.heap.size := World.block_lt_of_cell? W _ (h j hj).1
  have hbk := Lib.alloc_old W o q hlt
  exact ⟨(World.cell?_of_block (a := ⟨q, j, none⟩) hbk).trans (h j hj).1, (World.frozen?_of_block (a := ⟨q, j, none⟩) hbk).trans (h j hj).2⟩
theorem RowQ.bytes (h : RowQ W q t n v92 v34) (s : ByteArray) : RowQ (Lib.bytesWorld W 5 s) q t n v92 v34 := fun j hj => by
  have hlt : q < W.heap.size := World.block_lt_of_cell? W _ (h j hj).1
  have hbk := (below_bytes (Below.refl W.heap.size W) (Nat.le_refl _) s).block q hlt
  exact ⟨(World.cell?_of_block (a := ⟨q, j, none⟩) hbk).trans (h j hj).1, (World.frozen?_of_block (a := ⟨q, j, none⟩) hbk).trans (h j hj).2⟩
theorem RowQ.below {B : Nat} (h : RowQ W q t n v92 v34) (hb : Below B W W') (hB : q < B) : RowQ W' q t n v92 v34 := fun j hj =>
  ⟨(hb.cell (p := ⟨q, j, none⟩) hB).trans (h j hj).1, (hb.frozen (p := ⟨q, j, none⟩) hB).trans (h j hj).2⟩
end
def repQ (n : Nat) (v : Value) : Array Value := (List.replicate n (Value.slice none 0 0) ++ [v]).toArray
theorem repQ_size (n : Nat) (v : Value) : (repQ n v).size = n + 1 := by simp [repQ]
theorem repQ_all (n : Nat) (v : Value) (hv : v.oneCell' = true) : (repQ n v).all (·.oneCell') = true := by
  rw [Array.all_eq_true']
  intro x hx
  simp [repQ] at hx
  rcases hx with ⟨_, rfl⟩ | rfl
  · rfl
  · exact hv
theorem repQ_set (n : Nat) (v : Value) : (List.replicate (n + 1) (Value.slice none 0 0)).set n v = (repQ n v).toList := by
  have : (List.replicate (n + 1) (Value.slice none 0 0)) = List.replicate n (Value.slice none 0 0) ++ [Value.slice none 0 0] := List.replicate_succ'
  rw [this, List.set_append_right _ _ (by simp)]
  simp [repQ]
theorem repQ_at (n : Nat) (v : Value) (j : Nat) (hj : j < n + 1) : (repQ n v)[j]? = some (if j = n then v else .slice none 0 0) := by
  unfold repQ
  by_cases e : j = n
  · subst e; simp
  · rw [if_neg e]
    have : j < n := by omega
    simp [List.getElem?_append, this]
theorem conv_one (W : World) (c : Nat) (hc : c < 256) : (convert 45 9 (.slice (some ⟨W.heap.size, 0, none⟩) 1 1)).run Tryz.prog (W.alloc (.cells #[.int .u8 (c : Int)] 5)) = .ok (.string ⟨#[UInt8.ofNat c]⟩) (W.alloc (.cells #[.int .u8 (c : Int)] 5)) := by
  have := run_convert_bytes_arg (P := Tryz.prog) (W.alloc (.cells #[.int .u8 (c : Int)] 5)) 45 5 Tryz.underlying45 Tryz.underlying5 W.heap.size 0 1 1 [(c : Int)] rfl (fun i hi => by
    obtain rfl : i = 0 := by simp at hi; omega
    rw [World.cell?_alloc_new]
    rfl) 9 Tryz.underlying9
  refine this.trans ?_
  have e : strOfNums [(c : Int)] = ⟨#[UInt8.ofNat c]⟩ := by
    unfold strOfNums
    simp
  rw [e]
theorem zeroCells132_eq : Tryz.zeroCells132.toList = List.replicate (256 + 1) (Value.slice none 0 0) := by kernel_rfl
def rowQ0 (t : Nat) : Array Value := repQ 256 (Value.slice (some ⟨t, 0, none⟩) 0 2)
theorem rowQ0_eq (t : Nat) : Tryz.zeroCells132.toList.set 256 (Value.slice (some ⟨t, 0, none⟩) 0 2) = (rowQ0 t).toList := by
  rw [zeroCells132_eq]
  exact repQ_set 256 _
theorem rowQ0_size (t : Nat) : (rowQ0 t).size = 257 := repQ_size 256 _
theorem rowQ0_all (t : Nat) : (rowQ0 t).all (·.oneCell') = true := repQ_all 256 _ rfl
theorem rowQ0_at (W : World) (t : Nat) : RowQ (W.alloc (.cells (rowQ0 t) 132)) W.heap.size t 0 (.slice none 0 0) (.slice none 0 0) := fun j hj => by
  refine ⟨?_, Lib.frozen_of_heap (heap_alloc_new W _) j⟩
  rw [World.cell?_alloc_new]
  unfold rowQ0
  rw [repQ_at 256 _ j hj]
  unfold fQ
  by_cases e : j = 256
  · rw [if_pos e, if_pos e]
  · rw [if_neg e, if_neg e]
    simp
def QS (n0 : Nat) (w : World) (i : Value) (W : World) : Prop :=
  (i = .int .i64 2 ∧ RowQ W (n0 + 1) n0 0 (.slice none 0 0) (.slice none 0 0) ∧ W.ownsRow n0 9 1 (.slice (some ⟨n0, 0, none⟩) 0 2) 0 [] ∧ Below n0 w W) ∨
  (i = .int .i64 0 ∧ ∃ p1 c1, RowQ W (n0 + 1) n0 1 (.slice (some ⟨p1, 0, none⟩) 2 c1) (.slice none 0 0) ∧ W.ownsRow n0 9 1 (.slice (some ⟨n0, 0, none⟩) 1 2) 1 [.string ⟨#[92]⟩] ∧ RowB W p1 2 [92, 92] ∧ n0 + 1 < p1 ∧ Below n0 w W) ∨
  (i = .int .i64 (-2) ∧ ∃ p1 c1 p2 c2, RowQ W (n0 + 1) n0 2 (.slice (some ⟨p1, 0, none⟩) 2 c1) (.slice (some ⟨p2, 0, none⟩) 2 c2) ∧ W.ownsRow n0 9 1 (.slice (some ⟨n0, 0, none⟩) 2 2) 2 [.string ⟨#[92]⟩, .string ⟨#[34]⟩] ∧ RowB W p1 2 [92, 92] ∧ RowB W p2 2 [92, 34] ∧ n0 + 1 < p1 ∧ n0 + 1 < p2 ∧ Below n0 w W)
theorem stage_next {n0 k : Nat} {w wr w2 : World} {o1 o2 : Obj} {xs : List Value} (hq : n0 + 1 < wr.heap.size) (hB1 : Below n0 w wr) (hn : n0 ≤ w.heap.size)
    (hO : w2.ownsRow n0 9 1 (.slice (some ⟨n0, 0, none⟩) k 2) k xs) (hg : ((wr.alloc o1).alloc o2).grownBy w2 (some n0)) (s : ByteArray) (u v : Value) (j : Nat) :
    ((Lib.bytesWorld (w2.setCell ⟨n0 + 1, 256, none⟩ u) 5 s).setCell ⟨n0 + 1, j, none⟩ v).ownsRow n0 9 1 (.slice (some ⟨n0, 0, none⟩) k 2) k xs ∧
    RowB ((Lib.bytesWorld (w2.setCell ⟨n0 + 1, 256, none⟩ u) 5 s).setCell ⟨n0 + 1, j, none⟩ v) w2.heap.size s.size (tabRow s [] 0) ∧ n0 + 1 < w2.heap.size ∧
    Below n0 w ((Lib.bytesWorld (w2.setCell ⟨n0 + 1, 256, none⟩ u) 5 s).setCell ⟨n0 + 1, j, none⟩ v) ∧
    (∀ p m ys, n0 + 1 < p → 0 < m → RowB wr p m ys → RowB ((Lib.bytesWorld (w2.setCell ⟨n0 + 1, 256, none⟩ u) 5 s).setCell ⟨n0 + 1, j, none⟩ v) p m ys) := by
  have hs2 : n0 + 1 < w2.heap.size := by have := hg.size; simp at this; omega
  have hs3 : (w2.setCell ⟨n0 + 1, 256, none⟩ u).heap.size = w2.heap.size := by simp [World.setCell]
  have hbb := below_bytes (Below.refl (w2.setCell ⟨n0 + 1, 256, none⟩ u).heap.size _) (Nat.le_refl _) s
  refine ⟨?_, ?_, hs2, ?_, ?_⟩
  · have h3' : (w2.setCell ⟨n0 + 1, 256, none⟩ u).ownsRow n0 9 1 (.slice (some ⟨n0, 0, none⟩) k 2) k xs := own_setCell hO (by simp [Value.ownBlock]) u
    exact own_setCell (pw_own_below h3' hbb) (by simp [Value.ownBlock]) v
  · have := (row_of_bytes (w2.setCell ⟨n0 + 1, 256, none⟩ u) s []).far (g := n0 + 1) (by rw [hs3]; omega) j v
    rw [hs3] at this
    exact this
  · refine Below.setCell ?_ (p := ⟨n0 + 1, j, none⟩) (by simp) v
    refine below_bytes ?_ (by rw [hs3]; omega) s
    refine Below.setCell ?_ (p := ⟨n0 + 1, 256, none⟩) (by simp) u
    have hs := hB1.size
    exact ((hB1.alloc (by omega) _).alloc (by simp; omega) _).grown hg (by simp; omega) (fun q e => by injection e with e; omega)
  · intro p m ys hp hm hr
    have hlt : p < wr.heap.size := World.block_lt_of_cell? wr ⟨p, 0, none⟩ (hr 0 hm).1
    have r2 : RowB w2 p m ys := fun i hi => by
      have hbk : w2.heap[p]? = wr.heap[p]? := by
        rw [hg.block p (by simp; omega) (fun e => by injection e with e; omega), Lib.alloc_old _ _ _ (by simp; omega), Lib.alloc_old _ _ _ hlt]
      exact ⟨(World.cell?_of_block (a := ⟨p, i, none⟩) hbk).trans (hr i hi).1, (World.frozen?_of_block (a := ⟨p, i, none⟩) hbk).trans (hr i hi).2⟩
    have hlt2 : p < w2.heap.size := World.block_lt_of_cell? w2 ⟨p, 0, none⟩ (r2 0 hm).1
    exact (((r2.far (g := n0 + 1) (by omega) 256 u).below hbb (by rw [hs3]; exact hlt2))).far (by omega) j v
def TabQ (W : World) (B q : Nat) : Prop := ∃ t p1 c1 p2 c2, B ≤ q ∧ RowQ W q t 2 (.slice (some ⟨p1, 0, none⟩) 2 c1) (.slice (some ⟨p2, 0, none⟩) 2 c2) ∧ B ≤ t ∧ W.cell? ⟨t, 0, none⟩ = some (.string ⟨#[92]⟩) ∧ W.cell? ⟨t, 1, none⟩ = some (.string ⟨#[34]⟩) ∧ B ≤ p1 ∧ RowB W p1 2 [92, 92] ∧ B ≤ p2 ∧ RowB W p2 2 [92, 34]
set_option maxRecDepth 100000 in
set_option maxHeartbeats 1000000 in
theorem build_strings (B g : Nat) (st : Int) (w : World) (hr : NewRep B w g st ⟨#[34]⟩ ⟨#[92, 34]⟩ ⟨#[92]⟩ ⟨#[92, 92]⟩) :
    Calls Tryz.prog 95 #[.pointer (some ⟨g, 0, none⟩)] w fun e w' => ∃ h, e = .returned (.iface 133 (.pointer (some ⟨h, 0, none⟩))) ∧ TabQ w' w.heap.size h ∧ Below w.heap.size w w' := by
  obtain ⟨hge, -, -, -, -, h, cap, hB, hne, g4, c0, c1, c2, c3⟩ := hr
  have hlt : h < w.heap.size := World.block_lt_of_cell? w ⟨h, 0, none⟩ c0
  go_enter Tryz.func95, Tryz.ntmps95
  go_wp2_with fail
  go_loop [4, 5] (fun a i => ∃ k : Nat, k ≤ 2 ∧ i = .int .i64 (2 * k : Nat) ∧ (0 < k → a = .bool false) ∧ ∃ b, a = .bool b) (fun _ i => (4 - intOf i).toNat)
  case atStart => exact ⟨0, by omega, rfl, fun h => by omega, _, rfl⟩
  case round =>
    obtain ⟨k, hk, rfl, ha, b, rfl⟩ := hrel
    obtain rfl | rfl | rfl : k = 0 ∨ k = 1 ∨ k = 2 := by omega
    · clear ha
      go_wp2_with fail
      go_round
      case rel => exact ⟨1, by omega, rfl, fun _ => rfl, _, rfl⟩
      case measure => simp [intOf]
    · clear ha
      go_wp2_with fail
      go_round
      case rel => exact ⟨2, by omega, rfl, fun _ => rfl, _, rfl⟩
      case measure => simp [intOf]
    · obtain rfl : b = false := by have := ha (by omega); injection this
      clear ha
      have hmk : (Instr.makeSlice 42 (.int .i64 0) (.int .i64 2)).run Tryz.prog w = .ok (.slice (some ⟨w.heap.size, 0, none⟩) 0 2) (w.alloc (.cells #[.string ⟨#[]⟩, .string ⟨#[]⟩] 9)) := by
        obtain ⟨i0, hi, hz0, hz1, hz2⟩ := info_parts info9
        have := run_make (P := Tryz.prog) (w := w) 42 9 i0 (.string ⟨#[]⟩) Tryz.underlying42 hi hz0 .i64 .i64 0 2 (by decide) (by decide) (by rw [hz2]; decide) (by decide)
        rw [hz1] at this
        refine this.trans ?_
        have e : madeCells (Value.string ⟨#[]⟩).cells (Int.toNat 2 * 1) = #[.string ⟨#[]⟩, .string ⟨#[]⟩] := by kernel_rfl
        rw [e]
        rfl
      have hst := run_storeCells_new (P := Tryz.prog) (w.alloc (.cells #[.string ⟨#[]⟩, .string ⟨#[]⟩] 9)) 132 Tryz.zeroCells132 (rowQ0 w.heap.size) (by rw [rowQ0_size]; kernel_rfl) (by rw [rowQ0_size]; kernel_rfl) (rowQ0_all _)
      rw [World.size_alloc, ← rowQ0_eq] at hst
      go_wp2_with fail
      clear hst hmk
      have qT : ∀ (w : World) (a : Option Addr) (n c n' c' : Nat), (binOp .eql 45 (.slice a n c) (.slice none n' c')).run Tryz.prog w = .ok (.bool a.isNone) w := fun w a n c n' c' => Lib.run_eql_slice_nil w _ _ a n c n' c' Tryz.underlying45
      have hrow0 := rowQ0_at (w.alloc (.cells #[.string ⟨#[]⟩, .string ⟨#[]⟩] 9)) w.heap.size
      rw [World.size_alloc] at hrow0
      have hB0 : Below w.heap.size w ((w.alloc (.cells #[.string ⟨#[]⟩, .string ⟨#[]⟩] 9)).alloc (.cells (rowQ0 w.heap.size) 132)) := ((Below.refl _ _).alloc (Nat.le_refl _) _).alloc (by simp) _
      have ht0 : ((w.alloc (.cells #[.string ⟨#[]⟩, .string ⟨#[]⟩] 9)).alloc (.cells (rowQ0 w.heap.size) 132)).ownsRow w.heap.size 9 1 (.slice (some ⟨w.heap.size, 0, none⟩) 0 2) 0 [] :=
        ⟨rfl, .inr ⟨w.heap.size, 2, #[.string ⟨#[]⟩, .string ⟨#[]⟩], rfl, Nat.le_refl _, (Lib.alloc_old _ _ _ (by simp)).trans (heap_alloc_new w _), by decide, by decide, rfl, rfl⟩⟩
      obtain ⟨i0, hi, hz0, hz1, hz2⟩ := info_parts info9
      go_loopw [12] (QS w.heap.size w) (fun i _ => (intOf i + 2).toNat)
      case atStart => exact .inl ⟨rfl, hrow0, ht0, hB0⟩
      case round =>
        clear hrow0 hB0 ht0
        have k0 : ∀ hh : 0 < (⟨#[34]⟩ : ByteArray).size, (⟨#[34]⟩ : ByteArray)[0]'hh = 34 := fun _ => rfl
        have k1 : ∀ hh : 0 < (⟨#[92]⟩ : ByteArray).size, (⟨#[92]⟩ : ByteArray)[0]'hh = 92 := fun _ => rfl
        rcases hrel with ⟨rfl, hrow, ht, hB1⟩ | ⟨rfl, p1, q1, hrow, ht, hr1, hp1, hB1⟩ | ⟨rfl, p1, q1, p2, q2, hrow, ht, hr1, hr2, hp1, hp2, hB1⟩
        · have d0 := pw_cell_below hB1 c0
          have d1 := pw_cell_below hB1 c1
          have d2 := pw_cell_below hB1 c2
          have d3 := pw_cell_below hB1 c3
          have e92 : wr.cell? ⟨w.heap.size + 1, 92, none⟩ = some (.slice none 0 0) := (hrow 92 (by decide)).1
          have e256 : wr.cell? ⟨w.heap.size + 1, 256, none⟩ = some (.slice (some ⟨w.heap.size, 0, none⟩) 0 2) := (hrow 256 (by decide)).1
          have f256 := (hrow 256 (by decide)).2
          have f92 := (hrow 92 (by decide)).2
          have hc1 : (convert 45 9 (.slice (some ⟨wr.heap.size, 0, none⟩) 1 1)).run Tryz.prog (wr.alloc (.cells #[.int .u8 92] 5)) = .ok (.string ⟨#[92]⟩) (wr.alloc (.cells #[.int .u8 92] 5)) := conv_one wr 92 (by decide)
          have hcv : ∀ W : World, (convert 9 45 (.string ⟨#[92, 92]⟩)).run Tryz.prog W = .ok (.slice (some ⟨W.heap.size, 0, none⟩) 2 (grownCap W 2 0 5)) (Lib.bytesWorld W 5 ⟨#[92, 92]⟩) := fun W => Lib.run_convert_string_bytes W 9 45 5 ⟨#[92, 92]⟩ Tryz.underlying9 Tryz.underlying45 Tryz.underlying5
          go_wp2_with (at_builtin; refine wpList_append_fits _ rfl _ _ 42 rfl w.heap.size 9 i0 1 Tryz.underlying42 hi hz1 w.heap.size 0 2 [] rfl ((ht.alloc _).alloc _) ⟨wr.heap.size + 1, 0, none⟩ 1 1 [.string ⟨#[92]⟩] rfl rfl ?c1 ?c2 (by decide) ?_)
          case c1 =>
            intro j u hj
            match j, hj with
            | 0, hj => simp at hj; subst hj; rw [add_plain, show wr.heap.size + 1 = (wr.alloc (.cells #[.int .u8 92] 5)).heap.size by simp]; exact (World.cell?_alloc_new _ _ _ _).trans rfl
          case c2 => intro u hu; simp at hu; subst hu; rfl
          intro w2 hown2 hg2
          have hr2 := ((hrow.alloc _).alloc _).grown hg2 (by omega)
          have e256' : w2.cell? ⟨w.heap.size + 1, 256, none⟩ = some (.slice (some ⟨w.heap.size, 0, none⟩) 0 2) := (hr2 256 (by decide)).1
          have f256' := (hr2 256 (by decide)).2
          have hr3 := (hr2.set256 1).bytes ⟨#[92, 92]⟩
          have e92' := (hr3 92 (by decide)).1
          have f92' := (hr3 92 (by decide)).2
          have HR3 := Aside0.mk hr3
          have HO2 := Aside0.mk hown2
          have HG2 := Aside0.mk hg2
          clear hr2 hr3 hown2 hg2 e256 f256 e92 f92 hc1
          go_wp2_with fail
          obtain ⟨n1, n2, n3, n4, n5⟩ := stage_next (by have := World.block_lt_of_cell? wr _ (hrow 0 (by decide)).1; exact this) hB1 (Nat.le_refl _) HO2.out HG2.out ⟨#[92, 92]⟩ (.slice (some ⟨w.heap.size, 0, none⟩) 1 2) (.slice (some ⟨w2.heap.size, 0, none⟩) 2 (grownCap (w2.setCell ⟨w.heap.size + 1, 256, none⟩ (.slice (some ⟨w.heap.size, 0, none⟩) 1 2)) 2 0 5)) 92
          refine ⟨.inr (.inl ⟨rfl, w2.heap.size, _, HR3.out.set92 _, n1, n2, n3, n4⟩), by simp [intOf]⟩
        · have d0 := pw_cell_below hB1 c0
          have d1 := pw_cell_below hB1 c1
          have d2 := pw_cell_below hB1 c2
          have d3 := pw_cell_below hB1 c3
          have e92 : wr.cell? ⟨w.heap.size + 1, 34, none⟩ = some (.slice none 0 0) := (hrow 34 (by decide)).1
          have e256 : wr.cell? ⟨w.heap.size + 1, 256, none⟩ = some (.slice (some ⟨w.heap.size, 0, none⟩) 1 2) := (hrow 256 (by decide)).1
          have f256 := (hrow 256 (by decide)).2
          have f92 := (hrow 34 (by decide)).2
          have hc1 : (convert 45 9 (.slice (some ⟨wr.heap.size, 0, none⟩) 1 1)).run Tryz.prog (wr.alloc (.cells #[.int .u8 34] 5)) = .ok (.string ⟨#[34]⟩) (wr.alloc (.cells #[.int .u8 34] 5)) := conv_one wr 34 (by decide)
          have hcv : ∀ W : World, (convert 9 45 (.string ⟨#[92, 34]⟩)).run Tryz.prog W = .ok (.slice (some ⟨W.heap.size, 0, none⟩) 2 (grownCap W 2 0 5)) (Lib.bytesWorld W 5 ⟨#[92, 34]⟩) := fun W => Lib.run_convert_string_bytes W 9 45 5 ⟨#[92, 34]⟩ Tryz.underlying9 Tryz.underlying45 Tryz.underlying5
          go_wp2_with (at_builtin; refine wpList_append_fits _ rfl _ _ 42 rfl w.heap.size 9 i0 1 Tryz.underlying42 hi hz1 w.heap.size 1 2 [.string ⟨#[92]⟩] rfl ((ht.alloc _).alloc _) ⟨wr.heap.size + 1, 0, none⟩ 1 1 [.string ⟨#[34]⟩] rfl rfl ?c1 ?c2 (by decide) ?_)
          case c1 =>
            intro j u hj
            match j, hj with
            | 0, hj => simp at hj; subst hj; rw [add_plain, show wr.heap.size + 1 = (wr.alloc (.cells #[.int .u8 34] 5)).heap.size by simp]; exact (World.cell?_alloc_new _ _ _ _).trans rfl
          case c2 => intro u hu; simp at hu; subst hu; rfl
          intro w2 hown2 hg2
          have hr2 := ((hrow.alloc _).alloc _).grown hg2 (by omega)
          have e256' : w2.cell? ⟨w.heap.size + 1, 256, none⟩ = some (.slice (some ⟨w.heap.size, 0, none⟩) 1 2) := (hr2 256 (by decide)).1
          have f256' := (hr2 256 (by decide)).2
          have hr3 := (hr2.set256 2).bytes ⟨#[92, 34]⟩
          have e92' := (hr3 34 (by decide)).1
          have f92' := (hr3 34 (by decide)).2
          have HR3 := Aside0.mk hr3
          have HO2 := Aside0.mk hown2
          have HG2 := Aside0.mk hg2
          clear hr2 hr3 hown2 hg2 e256 f256 e92 f92 hc1
          go_wp2_with fail
          obtain ⟨n1, n2, n3, n4, n5⟩ := stage_next (by have := World.block_lt_of_cell? wr _ (hrow 0 (by decide)).1; exact this) hB1 (Nat.le_refl _) HO2.out HG2.out ⟨#[92, 34]⟩ (.slice (some ⟨w.heap.size, 0, none⟩) 2 2) (.slice (some ⟨w2.heap.size, 0, none⟩) 2 (grownCap (w2.setCell ⟨w.heap.size + 1, 256, none⟩ (.slice (some ⟨w.heap.size, 0, none⟩) 2 2)) 2 0 5)) 34
          refine ⟨.inr (.inr ⟨rfl, p1, q1, w2.heap.size, _, HR3.out.set34 _, n1, n5 p1 2 _ hp1 (by decide) hr1, n2, hp1, n3, n4⟩), by simp [intOf]⟩
        · go_wp2_with fail
          go_ret
          have htl := ht.cellAt 0 (by decide)
          have htl1 := ht.cellAt 1 (by decide)
          exact ⟨w.heap.size + 1, rfl, ⟨w.heap.size, p1, q1, p2, q2, by omega, hrow, Nat.le_refl _, htl, htl1, by omega, hr1, by omega, hr2⟩, hB1⟩
end Go.Proofs.YtieompfmhnpnaaaGreat.H
namespace Go.Proofs.YtieompfmhnpnaaaGreat.H
open Go.RowKit Go.Proofs.YtieompfmhnpnaaaGreatW.PrintWords Go.Proofs.YtieompfmhnpnaaaGreatW.PrintLast Go.Proofs.YtieompfmhnpnaaaGreatW.PrintMore
set_option linter.unusedVariables false
set_option linter.unusedSimpArgs false
def escL (c : UInt8) : List UInt8 := if c = 34 then [92, 34] else if c = 92 then [92, 92] else [c]
def isEsc (c : UInt8) : Bool := c == 34 || c == 92
def cntE (l : List UInt8) : Nat := (l.filter isEsc).length
def escS (s : ByteArray) : ByteArray := mkB ((bl s).flatMap escL)
theorem escL_length (c : UInt8) : (escL c).length = 1 + (if isEsc c then 1 else 0) := by
  unfold escL isEsc
  by_cases h : c = 34
  · simp [h]
  · by_cases h2 : c = 92
    · simp [h2]
    · simp [h, h2]
theorem cntE_cons (c : UInt8) (l : List UInt8) : cntE (c :: l) = (if isEsc c then 1 else 0) + cntE l := by
  unfold cntE
  by_cases h : isEsc c = true
  · simp [h]; omega
  · simp [h]
theorem escL_flat (l : List UInt8) : (l.flatMap escL).length = l.length + cntE l := by
  induction l with
  | nil => rfl
  | cons c l ih => rw [List.flatMap_cons, List.length_append, ih, escL_length, cntE_cons, List.length_cons]; omega
theorem cntE_append (l m : List UInt8) : cntE (l ++ m) = cntE l + cntE m := by simp [cntE]
theorem cntE_le (l : List UInt8) : cntE l ≤ l.length := List.length_filter_le _ _
theorem cntE_two (l : List UInt8) : cntE l = l.count 92 + l.count 34 := by
  induction l with
  | nil => rfl
  | cons c l ih =>
    rw [cntE_cons, ih, List.count_cons, List.count_cons]
    unfold isEsc
    by_cases h : c = 34
    · subst h; simp; omega
    · by_cases h2 : c = 92
      · subst h2; simp; omega
      · simp [h, h2]
theorem cntE_zero {l : List UInt8} (h : cntE l = 0) : l.flatMap escL = l := by
  induction l with
  | nil => rfl
  | cons c l ih =>
    rw [cntE_cons] at h
    have h1 : isEsc c = false := by
      cases hc : isEsc c with
      | false => rfl
      | true => rw [hc] at h; simp at h
    rw [List.flatMap_cons, ih (by rw [h1] at h; simpa using h)]
    unfold escL isEsc at *
    simp at h1
    simp [h1.1, h1.2]
def escTo (s : ByteArray) (k : Nat) : List UInt8 := ((bl s).take k).flatMap escL
theorem escTo_succ (s : ByteArray) (k : Nat) (h : k < s.size) : escTo s (k + 1) = escTo s k ++ escL (byteAt s k) := by
  unfold escTo
  rw [take_byteAt s k h, List.flatMap_append]
  simp
theorem escTo_le (s : ByteArray) (k : Nat) : (escTo s k).length ≤ s.size + cntE (bl s) := by
  have h := escL_flat (bl s)
  rw [bl_length] at h
  have e : (bl s).flatMap escL = escTo s k ++ ((bl s).drop k).flatMap escL := by
    unfold escTo
    rw [← List.flatMap_append, List.take_append_drop]
  rw [e, List.length_append] at h
  omega
theorem escTo_all (s : ByteArray) : escTo s s.size = (bl s).flatMap escL := by
  unfold escTo
  rw [← bl_length, List.take_length]
def ints (l : List UInt8) : List Int := l.map fun c => (c.toNat : Int)
theorem ints_length (l : List UInt8) : (ints l).length = l.length := by simp [ints]
theorem ints_append (l m : List UInt8) : ints (l ++ m) = ints l ++ ints m := by simp [ints]
theorem ints_back (l : List UInt8) : strOfNums (ints l) = mkB l := byteInts_back l
def rowP (N : Nat) (pre : List Int) : List Int := pre ++ List.replicate (N - pre.length) 0
theorem rowP_length (N : Nat) (pre : List Int) (h : pre.length ≤ N) : (rowP N pre).length = N := by simp [rowP]; omega
theorem rowP_set (N : Nat) (pre : List Int) (v : Int) (h : pre.length < N) : (rowP N pre).set pre.length v = rowP N (pre ++ [v]) := by
  unfold rowP
  rw [List.set_append_right _ _ (Nat.le_refl _), Nat.sub_self]
  have e : N - pre.length = (N - (pre ++ [v]).length) + 1 := by simp; omega
  rw [e, List.replicate_succ]
  simp
theorem rowP_full (N : Nat) (pre : List Int) (h : pre.length = N) : rowP N pre = pre := by simp [rowP, h]
theorem rowP_nil (N : Nat) : rowP N [] = List.replicate N 0 := by simp [rowP]
set_option maxHeartbeats 1000000 in
set_option maxRecDepth 100000 in
theorem count_one (s : ByteArray) (c : UInt8) (w : World) :
    Calls Tryz.prog 160 #[.string s, .string ⟨#[c]⟩] w fun e w' => e = .returned (.int .i64 ((bl s).count c : Nat)) ∧ w' = w := by
  have k0 : ∀ hh : 0 < (⟨#[c]⟩ : ByteArray).size, (⟨#[c]⟩ : ByteArray)[0]'hh = c := fun _ => rfl
  have hc := c.toNat_lt
  have e1 : c.toNat.toUInt8 = c := by simp
  go_enter Tryz.func160, Tryz.ntmps160
  go_wp2_with fail
  rw [run_callFunc_extern Tryz.func162 (by kernel_rfl) (by kernel_rfl) (by kernel_rfl) (e := Extern.BytealgCount.count) (by kernel_rfl), Lib.run_countString]
  simp only [Result.andThen]
  rw [Oper.upon_value]
  go_wp2_with fail
  go_ret
  exact ⟨rfl, rfl⟩
theorem madeRow (W : World) (N : Nat) (hN : N ≤ maxLen) : RowB (W.alloc (.cells (madeCells #[.int .u8 0] N) 5)) W.heap.size N (rowP N []) := fun j hj => by
  have h := own_made (W := W) (base := 0) (e := 5) (k := .u8) N (Nat.zero_le _) hN
  have h1 := h.cellAt j (by omega)
  refine ⟨?_, h.frozenAt j⟩
  rw [h1, rowP_nil]
  simp [nums, List.getD, hj]
theorem make_bytes (W : World) (N : Nat) (hN : N ≤ 281474976710656) : (Instr.makeSlice 45 (.int .i64 (N : Int)) (.int .i64 (N : Int))).run Tryz.prog W = .ok (.slice (some ⟨W.heap.size, 0, none⟩) N N) (W.alloc (.cells (madeCells #[.int .u8 0] N) 5)) :=
  print_make 45 5 .u8 1 Tryz.underlying45 info5 (by decide) N (by omega) W
theorem run_neq_nil (w : World) (t e : TypeId) (a : Option Addr) (n c n' c' : Nat) (h : Tryz.prog.underlying t = some (.slice e)) :
    (binOp .neq t (.slice a n c) (.slice none n' c')).run Tryz.prog w = .ok (.bool (!a.isNone)) w := by
  simp only [binOp]
  simp [Op.equal, Op.maxDepth, Lib.run_equalIn_slice_nil w 9999 t e a n c n' c' h]
theorem copy_two (W : World) (g j N cap p c : Nat) (xs : List Int) (a b : Int) (hj : j + 2 ≤ N) (hg : RowB W g N xs) (hp : RowB W p 2 [a, b]) :
    (Builtin.copy_ #[45, 45] 3 #[.slice (some ⟨g, j, none⟩) (N - j) cap, .slice (some ⟨p, 0, none⟩) 2 c]).run Tryz.prog W =
      .ok (.int .i64 2) ((W.setCell ⟨g, j, none⟩ (.int .u8 a)).setCell ⟨g, j + 1, none⟩ (.int .u8 b)) := by
  have := run_copy_cells (P := Tryz.prog) W 45 45 3 5 g j (N - j) cap ⟨p, 0, none⟩ 2 c [.int .u8 a, .int .u8 b] Tryz.underlying45 (by kernel_rfl) (by have e : Nat.min 2 (N - j) = 2 := Nat.min_eq_left (by omega); rw [e]; rfl)
    (fun i v hv => by
      match i, hv with
      | 0, hv => simp at hv; subst hv; exact (hp 0 (by decide)).1
      | 1, hv => simp at hv; subst hv; exact (hp 1 (by decide)).1)
    (fun i hi => by simp at hi; rw [(hg (j + i) (by omega)).1]; rfl) (fun i hi => by simp at hi; exact (hg (j + i) (by omega)).2)
    (fun v hv => by simp at hv; rcases hv with rfl | rfl <;> rfl)
  exact this
set_option maxHeartbeats 1000000 in
set_option maxRecDepth 100000 in
theorem strReplace (B h : Nat) (s : ByteArray) (w : World) (hs : s.size ≤ 1099511627776) (hr : TabQ w B h) :
    Calls Tryz.prog 158 #[.pointer (some ⟨h, 0, none⟩), .string s] w fun e w' => e = .returned (.string (escS s)) ∧ Below w.heap.size w w' := by
  obtain ⟨t, p1, c1, p2, c2, hq, hrow, ht, t0, t1, hp1, hr1, hp2, hr2⟩ := hr
  have hle := cntE_le (bl s)
  rw [bl_length] at hle
  have e256 : w.cell? ⟨h, 256, none⟩ = some (.slice (some ⟨t, 0, none⟩) 2 2) := (hrow 256 (by decide)).1
  have e34 : w.cell? ⟨h, 34, none⟩ = some (.slice (some ⟨p2, 0, none⟩) 2 c2) := (hrow 34 (by decide)).1
  have e92 : w.cell? ⟨h, 92, none⟩ = some (.slice (some ⟨p1, 0, none⟩) 2 c1) := (hrow 92 (by decide)).1
  have qT : ∀ (w : World) (a : Option Addr) (n c n' c' : Nat), (binOp .neq 45 (.slice a n c) (.slice none n' c')).run Tryz.prog w = .ok (.bool (!a.isNone)) w := fun w a n c n' c' => run_neq_nil w 45 5 a n c n' c' Tryz.underlying45
  go_enter Tryz.func158, Tryz.ntmps158
  have hmx : Tryz.prog.follows .mixedOrders = true := by kernel_rfl
  have HLB := Lib.hid (bl_length s)
  have HTWO := Lib.hid (cntE_two (bl s))
  by_cases h16 : 16 ≤ s.size
  · have h16I : (16 : Int) ≤ (s.size : Int) := by omega
    go_wp2_with fail
    have h92' := List.count_le_length (a := (92 : UInt8)) (l := bl s)
    have h34' := List.count_le_length (a := (34 : UInt8)) (l := bl s)
    rw [HLB.out] at h92' h34'
    obtain ⟨n92, h92⟩ : ∃ n, (bl s).count 92 = n := ⟨_, rfl⟩
    obtain ⟨n34, h34⟩ : ∃ n, (bl s).count 34 = n := ⟨_, rfl⟩
    rw [h92] at h92'
    rw [h34] at h34'
    have htwo := HTWO.out
    rw [h92, h34] at htwo
    have HTW := Lib.hid htwo
    have H92 := Lib.hid h92
    have H34 := Lib.hid h34
    clear htwo h92 h34
    go_loopw [5, 6, 32] (fun n a i wr => ∃ (k c m : Nat), k ≤ 2 ∧ c = (if k = 0 then 0 else if k = 1 then n92 else n92 + n34) ∧ n = .int .i64 ((s.size + c : Nat) : Int) ∧ a = .bool (decide (0 < c)) ∧ i = .int .i64 (k : Int) ∧ wr = w.drewN m) (fun _ _ i _ => (2 - intOf i).toNat)
    case atStart => exact ⟨0, 0, 0, by omega, rfl, rfl, rfl, rfl, rfl⟩
    case round =>
      obtain ⟨k, c, m, hk, hc, rfl, rfl, rfl, rfl⟩ := hrel
      obtain rfl | rfl | rfl : k = 0 ∨ k = 1 ∨ k = 2 := by omega
      · obtain rfl : c = 0 := by simpa using hc
        clear hc hk
        simp only [Nat.add_zero]
        have k0 : ∀ hh : 0 < (⟨#[92]⟩ : ByteArray).size, (⟨#[92]⟩ : ByteArray)[0]'hh = 92 := fun _ => rfl
        by_cases z : n92 = 0
        · subst z
          go_wp2_with fail
          refine (count_one s 92 _).mono ?_
          rintro e w1 ⟨rfl, rfl⟩
          rw [H92.out]
          go_wp2_with fail
          go_roundw
          case rel => exact ⟨1, 0, m, by omega, rfl, rfl, rfl, rfl, rfl⟩
          case measure => simp [intOf]
        · have zI : ¬ ((n92 : Int) = 0) := by omega
          have zB : ((n92 : Int) != 0) = true := by simpa using z
          go_wp2_with fail
          refine (count_one s 92 _).mono ?_
          rintro e w1 ⟨rfl, rfl⟩
          rw [H92.out]
          go_wp2_with fail
          go_region
          go_wp2_with fail
          go_roundw
          case rel => exact ⟨1, n92, m + 1, by omega, rfl, by simp, by simp; omega, rfl, rfl⟩
          case measure => simp [intOf]
      · obtain rfl : c = n92 := by simpa using hc
        clear hc hk
        have k0 : ∀ hh : 0 < (⟨#[34]⟩ : ByteArray).size, (⟨#[34]⟩ : ByteArray)[0]'hh = 34 := fun _ => rfl
        by_cases z : n34 = 0
        · subst z
          go_wp2_with fail
          refine (count_one s 34 _).mono ?_
          rintro e w1 ⟨rfl, rfl⟩
          rw [H34.out]
          go_wp2_with fail
          go_roundw
          case rel => exact ⟨2, c, m, by omega, rfl, rfl, rfl, rfl, rfl⟩
          case measure => simp [intOf]
        · have zI : ¬ ((n34 : Int) = 0) := by omega
          have zB : ((n34 : Int) != 0) = true := by simpa using z
          go_wp2_with fail
          refine (count_one s 34 _).mono ?_
          rintro e w1 ⟨rfl, rfl⟩
          rw [H34.out]
          go_wp2_with fail
          go_region
          go_wp2_with fail
          go_roundw
          case rel => exact ⟨2, c + n34, m + 1, by omega, rfl, by simp; omega, by simp; omega, rfl, rfl⟩
          case measure => simp [intOf]
      · obtain rfl : c = n92 + n34 := by simpa using hc
        rw [← HTW.out]
        clear hc hk
        generalize hcn : cntE (bl s) = cnt at *
        by_cases z : cnt = 0
        · subst z
          have HE := Lib.hid (cntE_zero hcn)
          clear hcn
          go_wp2_with fail
          go_ret
          refine ⟨?_, pw_below_drewN (Below.refl _ w) m⟩
          have : escS s = s := by unfold escS; rw [HE.out]
          rw [this]
          rfl
        · have dz : decide (0 < cnt) = true := by simp; omega
          rw [dz]
          obtain ⟨N, hN⟩ : ∃ N, s.size + cnt = N := ⟨_, rfl⟩
          rw [hN]
          have hmk := fun W => make_bytes W N (by omega)
          have hNle : N ≤ 2199023255552 := by omega
          have HCN := Lib.hid hcn
          have HNN := Lib.hid hN
          clear z dz hcn hN
          go_wp2_with fail
          have hrow0 := madeRow (w.drewN m) N (by unfold maxLen; omega)
          have hB0 : Below w.heap.size w ((w.drewN m).alloc (.cells (madeCells #[.int .u8 0] N) 5)) := (pw_below_drewN (Below.refl _ w) m).alloc (Nat.le_refl _) _
          rw [show (w.drewN m).heap.size = w.heap.size from rfl] at hrow0
          go_loopw [13, 14] (fun jv i wr => ∃ k : Nat, k ≤ s.size ∧ i = .int .i64 (k : Int) ∧ jv = .int .i64 ((escTo s k).length : Int) ∧ RowB wr w.heap.size N (rowP N (ints (escTo s k))) ∧ Below w.heap.size w wr) (fun _ i _ => s.size - (intOf i).toNat)
          case atStart => exact ⟨0, Nat.zero_le _, rfl, rfl, hrow0, hB0⟩
          case round =>
            clear hrow0 hB0
            obtain ⟨k, hk, rfl, rfl, hrb, hB1⟩ := hrel
            by_cases hlt : k < s.size
            · have hle1 := escTo_le s (k + 1)
              rw [HCN.out, HNN.out, escTo_succ s k hlt] at hle1
              have HSU := Lib.hid (escTo_succ s k hlt)
              obtain ⟨l, hl⟩ : ∃ l, escTo s k = l := ⟨_, rfl⟩
              rw [hl] at HSU hle1 hrb ⊢
              clear hl
              obtain ⟨j, hj⟩ : ∃ j, l.length = j := ⟨_, rfl⟩
              rw [hj]
              have HJ := Lib.hid hj
              have hjl : (ints l).length = j := by rw [ints_length]; exact hj
              by_cases c34 : byteAt s k = 34
              · have he : escL (byteAt s k) = [92, 34] := by rw [c34]; rfl
                have HE := Lib.hid he
                rw [he, List.length_append, hj] at hle1
                have hj2 : j + 2 ≤ N := by simpa using hle1
                have hj3 : j < N := by omega
                have hk0 : ∀ hh, s[k]'hh = 34 := fun hh => (byteAt_get s k hh).trans c34
                have ec1 := pw_cell_below hB1 e34
                have hplt : p2 < w.heap.size := World.block_lt_of_cell? w ⟨p2, 0, none⟩ (hr2 0 (by decide)).1
                have hcp := copy_two wr w.heap.size j N (N - j) p2 c2 _ 92 34 hj2 hrb (hr2.below hB1 hplt)
                have hcp2 := copy_two wr.drew w.heap.size j N (N - j) p2 c2 _ 92 34 hj2 hrb (hr2.below hB1.drew hplt)
                have hset := hrb.set (rowP_length N _ (by omega)) j hj3 92
                rw [← hjl, rowP_set N _ _ (by omega), hjl] at hset
                have hl1 : (ints l ++ [92]).length = j + 1 := by rw [List.length_append, hjl]; rfl
                have hset2 := hset.set (rowP_length N _ (by omega)) (j + 1) (by omega) 34
                rw [← hl1, rowP_set N _ _ (by omega), hl1] at hset2
                clear hl1
                have HSET := Aside0.mk hset2
                clear he hset hset2 c34 hrb hj hjl hle1
                go_wp2_with fail
                go_region
                go_wp2_with fail
                refine ⟨⟨k + 1, by omega, by go_num, ?_, ?_, ((hB1.setCell (p := ⟨w.heap.size, j, none⟩) (Nat.le_refl _) _).setCell (p := ⟨w.heap.size, j + 1, none⟩) (Nat.le_refl _) _).drew⟩, by simp [intOf]; omega⟩
                · rw [HSU.out, HE.out, List.length_append, HJ.out]; go_num
                · rw [HSU.out, HE.out, ints_append]
                  have e : ints [92, 34] = [92, 34] := rfl
                  have h3 := HSET.out
                  rw [List.append_assoc] at h3
                  exact h3
              · by_cases c92 : byteAt s k = 92
                · have he : escL (byteAt s k) = [92, 92] := by rw [c92]; rfl
                  have HE := Lib.hid he
                  rw [he, List.length_append, hj] at hle1
                  have hj2 : j + 2 ≤ N := by simpa using hle1
                  have hj3 : j < N := by omega
                  have hk0 : ∀ hh, s[k]'hh = 92 := fun hh => (byteAt_get s k hh).trans c92
                  have ec1 := pw_cell_below hB1 e92
                  have hplt : p1 < w.heap.size := World.block_lt_of_cell? w ⟨p1, 0, none⟩ (hr1 0 (by decide)).1
                  have hcp := copy_two wr w.heap.size j N (N - j) p1 c1 _ 92 92 hj2 hrb (hr1.below hB1 hplt)
                  have hcp2 := copy_two wr.drew w.heap.size j N (N - j) p1 c1 _ 92 92 hj2 hrb (hr1.below hB1.drew hplt)
                  have hset := hrb.set (rowP_length N _ (by omega)) j hj3 92
                  rw [← hjl, rowP_set N _ _ (by omega), hjl] at hset
                  have hl1 : (ints l ++ [92]).length = j + 1 := by rw [List.length_append, hjl]; rfl
                  have hset2 := hset.set (rowP_length N _ (by omega)) (j + 1) (by omega) 92
                  rw [← hl1, rowP_set N _ _ (by omega), hl1] at hset2
                  clear hl1
                  have HSET := Aside0.mk hset2
                  clear he hset hset2 c92 hrb hj hjl hle1
                  go_wp2_with fail
                  go_region
                  go_wp2_with fail
                  refine ⟨⟨k + 1, by omega, by go_num, ?_, ?_, ((hB1.setCell (p := ⟨w.heap.size, j, none⟩) (Nat.le_refl _) _).setCell (p := ⟨w.heap.size, j + 1, none⟩) (Nat.le_refl _) _).drew⟩, by simp [intOf]; omega⟩
                  · rw [HSU.out, HE.out, List.length_append, HJ.out]; go_num
                  · rw [HSU.out, HE.out, ints_append]
                    have e : ints [92, 92] = [92, 92] := rfl
                    have h3 := HSET.out
                    rw [List.append_assoc] at h3
                    exact h3
                · have hb256 : (byteAt s k).toNat < 256 := (byteAt s k).toNat_lt
                  have n34 : (byteAt s k).toNat ≠ 34 := fun e => c34 (by rw [← UInt8.toNat_inj]; exact e)
                  have n92 : (byteAt s k).toNat ≠ 92 := fun e => c92 (by rw [← UInt8.toNat_inj]; exact e)
                  have ec := (hrow (byteAt s k).toNat (by omega)).1
                  have ef : fQ t 2 (.slice (some ⟨p1, 0, none⟩) 2 c1) (.slice (some ⟨p2, 0, none⟩) 2 c2) (byteAt s k).toNat = .slice none 0 0 := by
                    unfold fQ
                    rw [if_neg (by omega), if_neg n92, if_neg n34]
                  rw [ef] at ec
                  have ec1 := pw_cell_below hB1 ec
                  have he : escL (byteAt s k) = [byteAt s k] := by unfold escL; rw [if_neg c34, if_neg c92]
                  have HE := Lib.hid he
                  rw [he, List.length_append, hj] at hle1
                  have hj2 : j < N := by simp at hle1; omega
                  have hk0 : ∀ hh, s[k]'hh = byteAt s k := fun hh => byteAt_get s k hh
                  have ej := (hrb j hj2).1
                  have fj := (hrb j hj2).2
                  have hset := hrb.set (rowP_length N _ (by omega)) j hj2 ((byteAt s k).toNat : Int)
                  rw [← hjl, rowP_set N _ _ (by omega), hjl] at hset
                  have HSET := Aside0.mk hset
                  clear ef ec he hset n34 n92 c34 c92 hrb hj hjl hle1 e34 e92 e256
                  go_wp2_with fail
                  refine ⟨⟨k + 1, by omega, by go_num, ?_, ?_, hB1.setCell (p := ⟨w.heap.size, j, none⟩) (Nat.le_refl _) _⟩, by simp [intOf]; omega⟩
                  · rw [HSU.out, HE.out, List.length_append, HJ.out]; go_num
                  · rw [HSU.out, HE.out, ints_append]; exact HSET.out
            · obtain rfl : k = s.size := by omega
              have hf := escTo_le s s.size
              rw [HCN.out, HNN.out] at hf
              have hfl : (ints (escTo s s.size)).length = N := by
                rw [ints_length, escTo_all, escL_flat, HLB.out, HCN.out, HNN.out]
              have hc := run_convert_bytes_arg (P := Tryz.prog) wr 45 5 Tryz.underlying45 Tryz.underlying5 w.heap.size 0 N N _ (rowP_length N (ints (escTo s s.size)) (by omega)) (fun i hi => by rw [Nat.zero_add]; exact (hrb i hi).1) 9 Tryz.underlying9
              rw [rowP_full N _ hfl, ints_back, escTo_all] at hc
              clear hf hfl hrb
              go_wp2_with fail
              go_ret
              exact ⟨rfl, hB1⟩
  · have h16I : ¬ (16 : Int) ≤ (s.size : Int) := by omega
    have h16J : (s.size : Int) < 16 := by omega
    go_wp2_with fail
    go_loopw [5, 6, 10] (fun n a i wr => ∃ (k m : Nat), k ≤ s.size ∧ n = .int .i64 ((s.size + cntE ((bl s).take k) : Nat) : Int) ∧ a = .bool (decide (0 < cntE ((bl s).take k))) ∧ i = .int .i64 (k : Int) ∧ wr = w.drewN m) (fun _ _ i _ => s.size - (intOf i).toNat)
    case atStart => exact ⟨0, 0, by omega, rfl, rfl, rfl, rfl⟩
    case round =>
      obtain ⟨k, m, hk, rfl, rfl, rfl, rfl⟩ := hrel
      by_cases hlt : k < s.size
      · have hsu : cntE ((bl s).take (k + 1)) = cntE ((bl s).take k) + (if isEsc (byteAt s k) then 1 else 0) := by
          rw [take_byteAt s k hlt, cntE_append, cntE_cons]
          rfl
        have hCk := cntE_le ((bl s).take k)
        rw [List.length_take] at hCk
        obtain ⟨C, hC⟩ : ∃ C, cntE ((bl s).take k) = C := ⟨_, rfl⟩
        rw [hC] at hsu hCk ⊢
        have hCk2 : C ≤ k := by omega
        have HC := Lib.hid hC
        clear hC hCk
        by_cases c34 : byteAt s k = 34
        · have hk0 : ∀ hh, s[k]'hh = 34 := fun hh => (byteAt_get s k hh).trans c34
          have HS2 := Lib.hid (hsu.trans (show C + (if isEsc (byteAt s k) then 1 else 0) = C + 1 by rw [c34]; rfl))
          clear hsu c34
          go_wp2_with fail
          go_roundw
          case rel => exact ⟨k + 1, m, by omega, by rw [HS2.out]; go_num, by rw [HS2.out]; simp, by go_num, rfl⟩
          case measure => simp [intOf]; omega
        by_cases c92 : byteAt s k = 92
        · have hk0 : ∀ hh, s[k]'hh = 92 := fun hh => (byteAt_get s k hh).trans c92
          have HS2 := Lib.hid (hsu.trans (show C + (if isEsc (byteAt s k) then 1 else 0) = C + 1 by rw [c92]; rfl))
          clear hsu c92
          go_wp2_with fail
          go_roundw
          case rel => exact ⟨k + 1, m, by omega, by rw [HS2.out]; go_num, by rw [HS2.out]; simp, by go_num, rfl⟩
          case measure => simp [intOf]; omega
        have hb256 : (byteAt s k).toNat < 256 := (byteAt s k).toNat_lt
        have n34 : (byteAt s k).toNat ≠ 34 := fun e => c34 (by rw [← UInt8.toNat_inj]; exact e)
        have n92 : (byteAt s k).toNat ≠ 92 := fun e => c92 (by rw [← UInt8.toNat_inj]; exact e)
        have ec := (hrow (byteAt s k).toNat (by omega)).1
        have ef : fQ t 2 (.slice (some ⟨p1, 0, none⟩) 2 c1) (.slice (some ⟨p2, 0, none⟩) 2 c2) (byteAt s k).toNat = .slice none 0 0 := by
          unfold fQ
          rw [if_neg (by omega), if_neg n92, if_neg n34]
        rw [ef] at ec
        have hk0 : ∀ hh, s[k]'hh = byteAt s k := fun hh => byteAt_get s k hh
        have HS2 := Lib.hid (hsu.trans (show C + (if isEsc (byteAt s k) then 1 else 0) = C by
          have : isEsc (byteAt s k) = false := by unfold isEsc; simp [c34, c92]
          rw [this]; rfl))
        clear hsu c34 c92 n34 n92 ef e34 e92 e256
        go_wp2_with fail
        go_roundw
        case rel => exact ⟨k + 1, m, by omega, by rw [HS2.out], by rw [HS2.out], by go_num, rfl⟩
        case measure => simp [intOf]; omega
      · obtain rfl : k = s.size := by omega
        have htk : (bl s).take s.size = bl s := by rw [← HLB.out, List.take_length]
        rw [htk]
        clear htk
        generalize hcn : cntE (bl s) = cnt at *
        by_cases z : cnt = 0
        · subst z
          have HE := Lib.hid (cntE_zero hcn)
          clear hcn
          go_wp2_with fail
          go_ret
          refine ⟨?_, pw_below_drewN (Below.refl _ w) m⟩
          have : escS s = s := by unfold escS; rw [HE.out]
          rw [this]
          rfl
        · have dz : decide (0 < cnt) = true := by simp; omega
          rw [dz]
          obtain ⟨N, hN⟩ : ∃ N, s.size + cnt = N := ⟨_, rfl⟩
          rw [hN]
          have hmk := fun W => make_bytes W N (by omega)
          have hNle : N ≤ 2199023255552 := by omega
          have HCN := Lib.hid hcn
          have HNN := Lib.hid hN
          clear z dz hcn hN
          go_wp2_with fail
          have hrow0 := madeRow (w.drewN m) N (by unfold maxLen; omega)
          have hB0 : Below w.heap.size w ((w.drewN m).alloc (.cells (madeCells #[.int .u8 0] N) 5)) := (pw_below_drewN (Below.refl _ w) m).alloc (Nat.le_refl _) _
          rw [show (w.drewN m).heap.size = w.heap.size from rfl] at hrow0
          go_loopw [13, 14] (fun jv i wr => ∃ k : Nat, k ≤ s.size ∧ i = .int .i64 (k : Int) ∧ jv = .int .i64 ((escTo s k).length : Int) ∧ RowB wr w.heap.size N (rowP N (ints (escTo s k))) ∧ Below w.heap.size w wr) (fun _ i _ => s.size - (intOf i).toNat)
          case atStart => exact ⟨0, Nat.zero_le _, rfl, rfl, hrow0, hB0⟩
          case round =>
            clear hrow0 hB0
            obtain ⟨k, hk, rfl, rfl, hrb, hB1⟩ := hrel
            by_cases hlt : k < s.size
            · have hle1 := escTo_le s (k + 1)
              rw [HCN.out, HNN.out, escTo_succ s k hlt] at hle1
              have HSU := Lib.hid (escTo_succ s k hlt)
              obtain ⟨l, hl⟩ : ∃ l, escTo s k = l := ⟨_, rfl⟩
              rw [hl] at HSU hle1 hrb ⊢
              clear hl
              obtain ⟨j, hj⟩ : ∃ j, l.length = j := ⟨_, rfl⟩
              rw [hj]
              have HJ := Lib.hid hj
              have hjl : (ints l).length = j := by rw [ints_length]; exact hj
              by_cases c34 : byteAt s k = 34
              · have he : escL (byteAt s k) = [92, 34] := by rw [c34]; rfl
                have HE := Lib.hid he
                rw [he, List.length_append, hj] at hle1
                have hj2 : j + 2 ≤ N := by simpa using hle1
                have hj3 : j < N := by omega
                have hk0 : ∀ hh, s[k]'hh = 34 := fun hh => (byteAt_get s k hh).trans c34
                have ec1 := pw_cell_below hB1 e34
                have hplt : p2 < w.heap.size := World.block_lt_of_cell? w ⟨p2, 0, none⟩ (hr2 0 (by decide)).1
                have hcp := copy_two wr w.heap.size j N (N - j) p2 c2 _ 92 34 hj2 hrb (hr2.below hB1 hplt)
                have hcp2 := copy_two wr.drew w.heap.size j N (N - j) p2 c2 _ 92 34 hj2 hrb (hr2.below hB1.drew hplt)
                have hset := hrb.set (rowP_length N _ (by omega)) j hj3 92
                rw [← hjl, rowP_set N _ _ (by omega), hjl] at hset
                have hl1 : (ints l ++ [92]).length = j + 1 := by rw [List.length_append, hjl]; rfl
                have hset2 := hset.set (rowP_length N _ (by omega)) (j + 1) (by omega) 34
                rw [← hl1, rowP_set N _ _ (by omega), hl1] at hset2
                clear hl1
                have HSET := Aside0.mk hset2
                clear he hset hset2 c34 hrb hj hjl hle1
                go_wp2_with fail
                go_region
                go_wp2_with fail
                refine ⟨⟨k + 1, by omega, by go_num, ?_, ?_, ((hB1.setCell (p := ⟨w.heap.size, j, none⟩) (Nat.le_refl _) _).setCell (p := ⟨w.heap.size, j + 1, none⟩) (Nat.le_refl _) _).drew⟩, by simp [intOf]; omega⟩
                · rw [HSU.out, HE.out, List.length_append, HJ.out]; go_num
                · rw [HSU.out, HE.out, ints_append]
                  have e : ints [92, 34] = [92, 34] := rfl
                  have h3 := HSET.out
                  rw [List.append_assoc] at h3
                  exact h3
              · by_cases c92 : byteAt s k = 92
                · have he : escL (byteAt s k) = [92, 92] := by rw [c92]; rfl
                  have HE := Lib.hid he
                  rw [he, List.length_append, hj] at hle1
                  have hj2 : j + 2 ≤ N := by simpa using hle1
                  have hj3 : j < N := by omega
                  have hk0 : ∀ hh, s[k]'hh = 92 := fun hh => (byteAt_get s k hh).trans c92
                  have ec1 := pw_cell_below hB1 e92
                  have hplt : p1 < w.heap.size := World.block_lt_of_cell? w ⟨p1, 0, none⟩ (hr1 0 (by decide)).1
                  have hcp := copy_two wr w.heap.size j N (N - j) p1 c1 _ 92 92 hj2 hrb (hr1.below hB1 hplt)
                  have hcp2 := copy_two wr.drew w.heap.size j N (N - j) p1 c1 _ 92 92 hj2 hrb (hr1.below hB1.drew hplt)
                  have hset := hrb.set (rowP_length N _ (by omega)) j hj3 92
                  rw [← hjl, rowP_set N _ _ (by omega), hjl] at hset
                  have hl1 : (ints l ++ [92]).length = j + 1 := by rw [List.length_append, hjl]; rfl
                  have hset2 := hset.set (rowP_length N _ (by omega)) (j + 1) (by omega) 92
                  rw [← hl1, rowP_set N _ _ (by omega), hl1] at hset2
                  clear hl1
                  have HSET := Aside0.mk hset2
                  clear he hset hset2 c92 hrb hj hjl hle1
                  go_wp2_with fail
                  go_region
                  go_wp2_with fail
                  refine ⟨⟨k + 1, by omega, by go_num, ?_, ?_, ((hB1.setCell (p := ⟨w.heap.size, j, none⟩) (Nat.le_refl _) _).setCell (p := ⟨w.heap.size, j + 1, none⟩) (Nat.le_refl _) _).drew⟩, by simp [intOf]; omega⟩
                  · rw [HSU.out, HE.out, List.length_append, HJ.out]; go_num
                  · rw [HSU.out, HE.out, ints_append]
                    have e : ints [92, 92] = [92, 92] := rfl
                    have h3 := HSET.out
                    rw [List.append_assoc] at h3
                    exact h3
                · have hb256 : (byteAt s k).toNat < 256 := (byteAt s k).toNat_lt
                  have n34 : (byteAt s k).toNat ≠ 34 := fun e => c34 (by rw [← UInt8.toNat_inj]; exact e)
                  have n92 : (byteAt s k).toNat ≠ 92 := fun e => c92 (by rw [← UInt8.toNat_inj]; exact e)
                  have ec := (hrow (byteAt s k).toNat (by omega)).1
                  have ef : fQ t 2 (.slice (some ⟨p1, 0, none⟩) 2 c1) (.slice (some ⟨p2, 0, none⟩) 2 c2) (byteAt s k).toNat = .slice none 0 0 := by
                    unfold fQ
                    rw [if_neg (by omega), if_neg n92, if_neg n34]
                  rw [ef] at ec
                  have ec1 := pw_cell_below hB1 ec
                  have he : escL (byteAt s k) = [byteAt s k] := by unfold escL; rw [if_neg c34, if_neg c92]
                  have HE := Lib.hid he
                  rw [he, List.length_append, hj] at hle1
                  have hj2 : j < N := by simp at hle1; omega
                  have hk0 : ∀ hh, s[k]'hh = byteAt s k := fun hh => byteAt_get s k hh
                  have ej := (hrb j hj2).1
                  have fj := (hrb j hj2).2
                  have hset := hrb.set (rowP_length N _ (by omega)) j hj2 ((byteAt s k).toNat : Int)
                  rw [← hjl, rowP_set N _ _ (by omega), hjl] at hset
                  have HSET := Aside0.mk hset
                  clear ef ec he hset n34 n92 c34 c92 hrb hj hjl hle1 e34 e92 e256
                  go_wp2_with fail
                  refine ⟨⟨k + 1, by omega, by go_num, ?_, ?_, hB1.setCell (p := ⟨w.heap.size, j, none⟩) (Nat.le_refl _) _⟩, by simp [intOf]; omega⟩
                  · rw [HSU.out, HE.out, List.length_append, HJ.out]; go_num
                  · rw [HSU.out, HE.out, ints_append]; exact HSET.out
            · obtain rfl : k = s.size := by omega
              have hf := escTo_le s s.size
              rw [HCN.out, HNN.out] at hf
              have hfl : (ints (escTo s s.size)).length = N := by
                rw [ints_length, escTo_all, escL_flat, HLB.out, HCN.out, HNN.out]
              have hc := run_convert_bytes_arg (P := Tryz.prog) wr 45 5 Tryz.underlying45 Tryz.underlying5 w.heap.size 0 N N _ (rowP_length N (ints (escTo s s.size)) (by omega)) (fun i hi => by rw [Nat.zero_add]; exact (hrb i hi).1) 9 Tryz.underlying9
              rw [rowP_full N _ hfl, ints_back, escTo_all] at hc
              clear hf hfl hrb
              go_wp2_with fail
              go_ret
              exact ⟨rfl, hB1⟩
end Go.Proofs.YtieompfmhnpnaaaGreat.H
namespace Go.Proofs.YtieompfmhnpnaaaGreat.H
open Go.RowKit Go.Proofs.YtieompfmhnpnaaaGreatW.PrintWords Go.Proofs.YtieompfmhnpnaaaGreatW.PrintLast Go.Proofs.YtieompfmhnpnaaaGreatW.PrintMore
set_option linter.unusedVariables false
set_option linter.unusedSimpArgs false
theorem TabQ.far {W : World} {B q g : Nat} (h : TabQ W B q) (hg : g < B) (j : Nat) (v : Value) : TabQ (W.setCell ⟨g, j, none⟩ v) B q := by
  obtain ⟨t, p1, c1, p2, c2, hq, hrow, ht, t0, t1, hp1, hr1, hp2, hr2⟩ := h
  have f : ∀ (b i : Nat), B ≤ b → (W.setCell ⟨g, j, none⟩ v).cell? ⟨b, i, none⟩ = W.cell? ⟨b, i, none⟩ := fun b i hb => World.cell?_setCell_far W ⟨g, j, none⟩ ⟨b, i, none⟩ v (show g ≠ b by omega)
  exact ⟨t, p1, c1, p2, c2, hq, hrow.far (by omega) j v, ht, (f t 0 ht).trans t0, (f t 1 ht).trans t1, hp1, hr1.far (by omega) j v, hp2, hr2.far (by omega) j v⟩
def TabledQ (B g : Nat) (w0 w : World) : Prop := ∃ h D, g < D ∧ w.cell? ⟨g, 3, none⟩ = some (.iface 133 (.pointer (some ⟨h, 0, none⟩))) ∧ TabQ w D h ∧ Below B w0 w
set_option maxRecDepth 100000 in
set_option maxHeartbeats 1000000 in
theorem buildOnce_strings (B g : Nat) (w : World) (hr : NewRep B w g 1 ⟨#[34]⟩ ⟨#[92, 34]⟩ ⟨#[92]⟩ ⟨#[92, 92]⟩) :
    Calls Tryz.prog 81 #[.pointer (some ⟨g, 0, none⟩)] w fun e w' => e = .returned (.tuple #[]) ∧ Held w' g ∧ TabledQ B g w w' := by
  have HR := Aside0.mk hr
  have hge := hr.ge
  have hlt : g < w.heap.size := World.block_lt_of_cell? w ⟨g, 0, none⟩ hr.done
  go_enter Tryz.func81, Tryz.ntmps81
  go_wp2_with fail
  refine (build_strings B g 1 w HR.out).mono ?_
  rintro e w1 ⟨h, rfl, hrow, hb⟩
  have d0 := pw_cell_below hb HR.out.done
  have d1 := pw_cell_below hb HR.out.state
  have d3 := pw_cell_below hb HR.out.r
  obtain ⟨k, cap, -, -, d4', -⟩ := HR.out.row
  have d4 := pw_cell_below hb d4'
  clear d4'
  have fz : ∀ j, w1.frozen? ⟨g, j, none⟩ = false := fun j => (hb.frozen (p := ⟨g, j, none⟩) hlt).trans (HR.out.fz j)
  have f3 := fz 3
  have f4 := fz 4
  have HROW := Aside0.mk hrow
  have HB := Aside0.mk hb
  have FZ := Aside0.mk fz
  clear hrow hb fz hr
  go_wp2_with fail
  go_end0
  have hBw : Below B w w1 := HB.out.mono (by omega)
  refine ⟨rfl, ⟨?_, ?_, ?_, ?_⟩, h, w.heap.size, hlt, ?_, ?_, (hBw.setCell (p := ⟨g, 3, none⟩) hge _).setCell (p := ⟨g, 4, none⟩) hge _⟩
  · exact (World.cell?_setCell_other _ ⟨g, 4, none⟩ ⟨g, 0, none⟩ _ (by simp)).trans ((World.cell?_setCell_other _ ⟨g, 3, none⟩ ⟨g, 0, none⟩ _ (by simp)).trans d0)
  · exact (World.cell?_setCell_other _ ⟨g, 4, none⟩ ⟨g, 1, none⟩ _ (by simp)).trans ((World.cell?_setCell_other _ ⟨g, 3, none⟩ ⟨g, 1, none⟩ _ (by simp)).trans d1)
  · rw [World.frozen?_setCell, World.frozen?_setCell]; exact FZ.out 0
  · rw [World.frozen?_setCell, World.frozen?_setCell]; exact FZ.out 1
  · exact (World.cell?_setCell_other _ ⟨g, 4, none⟩ ⟨g, 3, none⟩ _ (by simp)).trans (World.cell?_setCell_same _ _ _ d3)
  · exact (HROW.out.far hlt 3 _).far hlt 4 _
theorem method133 (a : Addr) (w : World) : (method 290 133 (.pointer (some a)) "Replace").run Tryz.prog w = .ok (158, .pointer (some a)) w := by kernel_rfl
set_option maxRecDepth 100000 in
set_option maxHeartbeats 1000000 in
theorem replace_strings (B g : Nat) (s : ByteArray) (w : World) (hs : s.size ≤ 1099511627776) (hB : B ≤ w.heap.size) (hr : NewRep B w g 0 ⟨#[34]⟩ ⟨#[92, 34]⟩ ⟨#[92]⟩ ⟨#[92, 92]⟩) :
    Calls Tryz.prog 53 #[.pointer (some ⟨g, 0, none⟩), .string s] w fun e w' => e = .returned (.string (escS s)) ∧ Below B w w' := by
  have hge := hr.ge
  have hlock := hr.locked 1
  have hfn := buildOnce_strings B g _ hlock
  have hfresh : Fresh w g := ⟨hr.done, hr.state, hr.fz 0, hr.fz 1⟩
  have HFN := Aside0.mk hfn
  clear hfn hlock hr
  go_enter Tryz.func53, Tryz.ntmps53
  go_wp2_with fail
  refine (do_first g w hfresh _ HFN.out).mono ?_
  rintro e w1 ⟨rfl, w2, ⟨h, D, hD, hc3, hrow, hb⟩, hw⟩
  have e3 : w1.cell? ⟨g, 3, none⟩ = some (.iface 133 (.pointer (some ⟨h, 0, none⟩))) := by
    rw [hw]
    exact (World.cell?_setCell_other _ ⟨g, 1, none⟩ ⟨g, 3, none⟩ _ (by simp)).trans ((World.cell?_setCell_other _ ⟨g, 0, none⟩ ⟨g, 3, none⟩ _ (by simp)).trans hc3)
  have hrow1 : TabQ w1 D h := by
    rw [hw]
    exact (TabQ.far (W := w2.drew) hrow hD 0 _).far hD 1 _
  have hb1 : Below B w w1 := by
    rw [hw]
    exact (((((Below.refl B w).setCell (p := ⟨g, 1, none⟩) hge _).trans hb).drew).setCell (p := ⟨g, 0, none⟩) hge _).setCell (p := ⟨g, 1, none⟩) hge _
  clear hw hrow hb hc3
  have HROW := Aside0.mk hrow1
  have HB := Aside0.mk hb1
  clear hrow1 hb1
  have hm := method133
  go_wp2_with fail
  refine (strReplace D h s w1 hs HROW.out).mono ?_
  rintro e w3 ⟨rfl, hb3⟩
  have HB3 := Aside0.mk hb3
  clear hb3
  go_wp2_with fail
  go_ret
  exact ⟨rfl, HB.out.trans (HB3.out.mono (by have := HB.out.size; omega))⟩
end Go.Proofs.YtieompfmhnpnaaaGreat.H
end
section
namespace Go.Proofs.YtieompfmhnpnaaaGreat.H
open Go.RowKit Go.Proofs.YtieompfmhnpnaaaGreatW.PrintWords Go.Proofs.YtieompfmhnpnaaaGreatW.PrintLast Go.Proofs.YtieompfmhnpnaaaGreatW.PrintMore
set_option linter.unusedVariables false
set_option linter.unusedSimpArgs false
def valL (v : ByteArray) : List UInt8 := if isTokenB v then bl v else [34] ++ bl (escS v) ++ [34]
def paramL (p : S25) : List UInt8 := if isTokenB p.f0 then ([59, 32] ++ bl p.f0 ++ [61]) ++ valL p.f1 else []
def quoteL (main : ByteArray) (l : List S25) : List UInt8 := bl main ++ l.flatMap paramL
def psum (l : List S25) : Nat := (l.map fun f => 4 * (f.f0.size + f.f1.size) + 16).sum
theorem escS_size (s : ByteArray) : (escS s).size ≤ 2 * s.size := by
  unfold escS
  rw [mkB_size, escL_flat]
  have := cntE_le (bl s)
  rw [bl_length] at *
  omega
theorem paramL_length (p : S25) : (paramL p).length ≤ 4 * (p.f0.size + p.f1.size) + 16 := by
  unfold paramL valL
  have := escS_size p.f1
  split
  · split
    · simp only [List.length_append, bl_length, List.length_cons, List.length_nil]; omega
    · simp only [List.length_append, bl_length, List.length_cons, List.length_nil]; omega
  · simp
theorem psum_cons (x : S25) (l : List S25) : psum (x :: l) = 4 * (x.f0.size + x.f1.size) + 16 + psum l := by simp [psum]
theorem psum_len (l : List S25) : 16 * l.length ≤ psum l := by
  induction l with
  | nil => simp
  | cons x l ih => rw [psum_cons, List.length_cons]; omega
theorem psum_at (l : List S25) (k : Nat) (h : k < l.length) : 4 * ((rd_T25 l (k : Int)).f0.size + (rd_T25 l (k : Int)).f1.size) + 16 ≤ psum l := by
  have e : rd_T25 l (k : Int) = l[k] := by simp [rd_T25, List.getD, h]
  rw [e]
  unfold psum
  have : 4 * (l[k].f0.size + l[k].f1.size) + 16 ∈ l.map (fun f => 4 * (f.f0.size + f.f1.size) + 16) := List.mem_map.2 ⟨l[k], List.getElem_mem h, rfl⟩
  exact le_sum this
theorem quoteL_take (m : ByteArray) (l : List S25) (k : Nat) (h : k < l.length) : quoteL m (l.take (k + 1)) = quoteL m (l.take k) ++ paramL (rd_T25 l (k : Int)) := by
  have e : rd_T25 l (k : Int) = l[k] := by simp [rd_T25, List.getD, h]
  rw [e, List.take_succ_eq_append_getElem h]
  unfold quoteL
  rw [List.flatMap_append]
  simp only [List.flatMap_cons, List.flatMap_nil, List.append_nil, List.append_assoc]
theorem quoteL_length (m : ByteArray) (l : List S25) : (quoteL m l).length ≤ m.size + psum l := by
  unfold quoteL
  rw [List.length_append, bl_length]
  have : (l.flatMap paramL).length ≤ psum l := by
    induction l with
    | nil => simp
    | cons x l ih =>
      have := paramL_length x
      rw [psum_cons, List.flatMap_cons, List.length_append]
      omega
  omega
theorem psum_take (l : List S25) (k : Nat) : psum (l.take k) ≤ psum l := by
  unfold psum
  have : l = l.take k ++ l.drop k := (List.take_append_drop k l).symm
  conv => rhs; rw [this]
  rw [List.map_append, List.sum_append]
  omega
theorem Bld.lt {B bb : Nat} {l : List UInt8} {a : World} (h : Bld B bb l a) : bb < a.heap.size := by
  rcases h with ⟨_, v, h2, _⟩ | ⟨_, v, h2, _⟩ <;> exact (Array.getElem?_eq_some_iff.1 h2).1
theorem sq_of {w : World} {fb : Nat} {a v : Value} (h : w.heap[fb]? = some (.cells #[a, v] 25 (0, 0))) : w.heap[fb]? = some (.cells #[a, v] 25 (0, 0)) ∧ w.cell? ⟨fb, 1, none⟩ = some v := ⟨h, by simp [World.cell?, h]⟩
theorem sqB {w w' : World} {B fb : Nat} {a v : Value} (hf : fb < B) (hb : Below B w w') (h : w.heap[fb]? = some (.cells #[a, v] 25 (0, 0)) ∧ w.cell? ⟨fb, 1, none⟩ = some v) : w'.heap[fb]? = some (.cells #[a, v] 25 (0, 0)) ∧ w'.cell? ⟨fb, 1, none⟩ = some v :=
  sq_of ((hb.block fb hf).trans h.1)
theorem sqK {w w' : World} {B bb fb : Nat} {a v : Value} (hne : fb ≠ bb) (hb : BKept B bb w w') (h : w.heap[fb]? = some (.cells #[a, v] 25 (0, 0)) ∧ w.cell? ⟨fb, 1, none⟩ = some v) : w'.heap[fb]? = some (.cells #[a, v] 25 (0, 0)) ∧ w'.cell? ⟨fb, 1, none⟩ = some v :=
  sq_of (hb.others fb _ h.1 (fun e => by injection e with e; exact hne e) (by intro c fz h; cases h))
theorem sqA {w : World} {fb : Nat} {a v : Value} (h : w.heap[fb]? = some (.cells #[a, v] 25 (0, 0)) ∧ w.cell? ⟨fb, 1, none⟩ = some v) (o : Obj) : (w.alloc o).heap[fb]? = some (.cells #[a, v] 25 (0, 0)) ∧ (w.alloc o).cell? ⟨fb, 1, none⟩ = some v :=
  sq_of ((Lib.alloc_old w o fb (Array.getElem?_eq_some_iff.1 h.1).1).trans h.1)
theorem sqD {w : World} {fb : Nat} {a v : Value} (h : w.heap[fb]? = some (.cells #[a, v] 25 (0, 0)) ∧ w.cell? ⟨fb, 1, none⟩ = some v) : w.drew.heap[fb]? = some (.cells #[a, v] 25 (0, 0)) ∧ w.drew.cell? ⟨fb, 1, none⟩ = some v := h
set_option maxHeartbeats 4000000 in
set_option maxRecDepth 100000 in
theorem quote_calls (m : ByteArray) (A0 : Option Addr) (c0 : Nat) (l0 : List S25) (w : World) (hr0 : Kd.C k25 w A0 l0.length l0) (hc0 : l0.length ≤ c0) (hs : m.size + psum l0 ≤ 137438953472) :
    Calls Tryz.prog 16 #[.string m, .slice A0 l0.length c0] w fun e w' => e = .returned (.string (mkB (quoteL m l0))) ∧ Below w.heap.size w w' := by
  have hu25 := Tryz.underlying25
  have HR0 := Aside0.mk hr0
  clear hr0
  go_enter Tryz.func16, Tryz.ntmps16
  go_wp2_with fail
  obtain ⟨W, hW⟩ : ∃ W, W = w.alloc (Obj.cells #[Value.pointer none, Value.slice none 0 0] 66) := ⟨_, rfl⟩
  have hb0 : Bld w.heap.size w.heap.size [] W := by
    rw [hW]
    rcases Lib.fresh_isBuilder 66 5 w with h | h
    · exact .inl (Lib.BuilderAtF.of h)
    · exact .inr (Lib.BuilderAtF.of h)
  have hB0 : Below w.heap.size w W := by rw [hW]; exact (Below.refl _ _).alloc (Nat.le_refl _) _
  rw [← hW]
  clear hW
  refine (wstr w.heap.size w.heap.size [] m W hb0 (by simp; omega) hB0.size).mono ?_
  rintro e w1 ⟨rfl, hb1, hk1⟩
  have hB1 := hB0.trans hk1.below
  have HB1 := Aside0.mk hb1
  clear hb0 hB0 hb1 hk1
  go_wp2_with fail
  go_loopw [12] (fun v wr => ∃ k : Nat, k ≤ l0.length ∧ v = .int .i64 k ∧ Aside0 (Bld w.heap.size w.heap.size (quoteL m (l0.take k)) wr) ∧ Aside0 (Below w.heap.size w wr)) (fun v _ => l0.length - (intOf v).toNat)
  case atStart => exact ⟨0, Nat.zero_le _, rfl, ⟨by simpa [quoteL, bl] using HB1.out⟩, ⟨hB1⟩⟩
  case round =>
    clear HB1 hB1
    obtain ⟨k, hk, rfl, hbl, hbel⟩ := hrel
    by_cases hlt : k < l0.length
    · obtain ⟨ad, rfl, hx0, hx1⟩ := at_T25 HR0.out (k : Int) (by omega) (by omega)
      obtain ⟨x, hx⟩ : ∃ x, x = rd_T25 l0 (k : Int) := ⟨_, rfl⟩
      rw [← hx] at hx0 hx1
      replace hx0 := (hbel.out.cell (World.block_lt_of_cell? w _ hx0)).trans hx0
      replace hx1 := (hbel.out.cell (World.block_lt_of_cell? w _ hx1)).trans hx1
      simp only [Int.toNat_natCast] at hx0 hx1
      have hsum := psum_at l0 k hlt
      rw [← hx] at hsum
      have hlen := psum_len l0
      have hout := quoteL_length m (l0.take k)
      have hout2 := psum_take l0 k
      have hnext := quoteL_take m l0 k hlt
      rw [← hx] at hnext
      have HX := Lib.hid hx
      have HN := Lib.hid hnext
      clear hx hnext
      obtain ⟨kn, hkn⟩ := (isToken_ev x.f0 (by omega)).rounds
      obtain ⟨kv, hkv⟩ := (isToken_ev x.f1 (by omega)).rounds
      have HKN := Aside0.mk hkn
      have HKV := Aside0.mk hkv
      clear hkn hkv
      have hBsz := hbel.out.size
      obtain ⟨fb, hfb⟩ : ∃ fb, fb = wr.heap.size := ⟨_, rfl⟩
      obtain ⟨w1, hw1⟩ : ∃ w1, w1 = wr.alloc (.cells #[.string x.f0, .string x.f1] 25) := ⟨_, rfl⟩
      have hb1 : Below wr.heap.size wr w1 := by rw [hw1]; exact (Below.refl _ _).alloc (Nat.le_refl _) _
      have hc0' : w1.cell? ⟨fb, 0, none⟩ = some (.string x.f0) := by rw [hw1, hfb]; simp
      have hc1' : w1.cell? ⟨fb, 1, none⟩ = some (.string x.f1) := by rw [hw1, hfb]; simp
      have hx25 : w1.heap[fb]? = some (.cells #[.string x.f0, .string x.f1] 25 (0, 0)) := by rw [hw1, hfb]; exact heap_alloc_new _ _
      have hlt1 : fb < w1.heap.size := by rw [hw1, hfb, World.size_alloc]; omega
      have HB1 := Aside0.mk hb1
      have HW1 := Aside0.mk hw1
      have HFB := Aside0.mk hfb
      have HX25 := Aside0.mk hx25
      clear hb1 hw1 hfb hx25
      by_cases hnm : isTokenB x.f0 = true
      · rw [hnm] at HKN
        have HNM := Lib.hid hnm
        clear hnm
        go_wp2_with fail
        rw [← HW1.out, ← HFB.out]
        refine (header_isToken.calls kn _ _ _ HKN.out).mono ?_
        rintro e w2 ⟨rfl, ⟨n, rfl⟩⟩
        go_wp2_with fail
        obtain ⟨hd, hhd⟩ : ∃ hd : ByteArray, (⟨#[59, 32]⟩ : ByteArray) ++ x.f0 ++ ⟨#[61]⟩ = hd := ⟨_, rfl⟩
        have hhs : hd.size = x.f0.size + 3 := by rw [← hhd, ByteArray.size_append, ByteArray.size_append, show (⟨#[59, 32]⟩ : ByteArray).size = 2 from rfl, show (⟨#[61]⟩ : ByteArray).size = 1 from rfl]; omega
        have hhb : hd.data.toList = [59, 32] ++ bl x.f0 ++ [61] := by
          rw [← hhd]
          show bl ((⟨#[59, 32]⟩ : ByteArray) ++ x.f0 ++ ⟨#[61]⟩) = _
          rw [bl_append, bl_append]
        rw [hhd]
        have HHB := Lib.hid hhb
        clear hhd hhb
        have hbld1 := (hbl.out.keep HB1.out).keep (pw_below_drewN (Below.refl _ _) n)
        refine (wstr w.heap.size w.heap.size _ hd _ hbld1 (by omega) (Nat.le_trans hBsz HB1.out.size)).mono ?_
        rintro e w3 ⟨rfl, hb3, hk3⟩
        have hnb : fb ≠ w.heap.size := by have := HFB.out; have := Bld.lt hbl.out; omega
        have hx3 : w3.heap[fb]? = some (.cells #[.string x.f0, .string x.f1] 25 (0, 0)) := hk3.others fb _ HX25.out (fun e => by injection e with e; have := HFB.out; have := Bld.lt hbl.out; omega) (by intro c fz h; cases h)
        have hs3 : fb < w3.heap.size := (Array.getElem?_eq_some_iff.1 hx3).1
        have c3 : w3.cell? ⟨fb, 1, none⟩ = some (.string x.f1) := by simp [World.cell?, hx3]
        have hbw3 : Below w.heap.size w w3 := (pw_below_drewN (hbel.out.trans (HB1.out.mono hBsz)) n).trans hk3.below
        rw [HHB.out] at hb3
        have hb3s := hbw3.size
        have HBW3 := Aside0.mk hbw3
        have HBL3 := Aside0.mk hb3
        clear hbw3 hb3 hk3 hbld1
        go_wp2_with fail
        refine (header_isToken.calls kv _ _ _ HKV.out).mono ?_
        rintro e w4 ⟨rfl, ⟨n4, rfl⟩⟩
        by_cases hv : isTokenB x.f1 = true
        · rw [hv]
          have HV := Lib.hid hv
          clear hv
          go_wp2_with fail
          refine (wstr w.heap.size w.heap.size _ x.f1 _ (HBL3.out.keep (pw_below_drewN (Below.refl _ _) n4)) (by simp; omega) hb3s).mono ?_
          rintro e w5 ⟨rfl, hb5, hk5⟩
          have HB5 := Aside0.mk hb5
          have HK5 := Aside0.mk hk5
          clear hb5 hk5
          go_wp2_with fail
          go_roundw
          case rel =>
            refine ⟨k + 1, by omega, by go_num, ⟨?_⟩, ⟨(pw_below_drewN HBW3.out n4).trans HK5.out.below⟩⟩
            rw [HN.out]
            have : paramL x = [59, 32] ++ bl x.f0 ++ [61] ++ bl x.f1 := by unfold paramL valL; rw [HNM.out, HV.out]; rfl
            rw [this, ← List.append_assoc]
            exact HB5.out
          case measure => simp [intOf]; omega
        · have hv' : isTokenB x.f1 = false := by simpa using hv
          rw [hv']
          have HV := Lib.hid hv'
          clear hv hv'
          go_wp2_with fail
          obtain ⟨W0, hW0⟩ : ∃ W0, W0 = w3.drewN n4 := ⟨_, rfl⟩
          have hbW := HBL3.out.keep (pw_below_drewN (Below.refl w3.heap.size w3) n4)
          have hlW : fb < W0.heap.size := by rw [hW0]; exact hs3
          have hsW : w.heap.size ≤ W0.heap.size := by rw [hW0]; exact hb3s
          have hS : W0.heap[fb]? = some (.cells #[.string x.f0, .string x.f1] 25 (0, 0)) ∧ W0.cell? ⟨fb, 1, none⟩ = some (.string x.f1) := by rw [hW0]; exact sq_of hx3
          have z34 : (⟨#[34]⟩ : ByteArray).size = 1 := rfl
          rw [← hW0] at hbW ⊢
          have HBW := Aside0.mk hbW
          have HW0 := Aside0.mk hW0
          clear hbW hW0 c3
          have hesz := escS_size x.f1
          obtain ⟨es, hes⟩ : ∃ es, escS x.f1 = es := ⟨_, rfl⟩
          rw [hes] at hesz
          have hf1 : (9223372036854775807 < 1 + es.size) = False := eq_false (by omega)
          have hf2 : (9223372036854775807 < 1 + es.size + 1) = False := eq_false (by omega)
          go_region_held3 (fun w' => w'.heap[fb]? = some (.cells #[.string x.f0, .string x.f1] 25 (0, 0)) ∧ w'.cell? ⟨fb, 1, none⟩ = some (.string x.f1)) (first | (exact sqD hS) | (exact sqD (sqA hS _)) | (exact sqA (by assumption) _) | (exact sqB hlW (by assumption) (sqD hS)) | (exact sqB hlW (by assumption) (by assumption)) | (exact sqK hnb (by assumption) (by assumption)) | go_keep)
            (first
              | (go_at_call 52; refine (new_replacer_at _ _ _ _ W0.drew _ rfl).mono ?_; rintro e w5 ⟨g5, rfl, hg5, hb5⟩)
              | (go_at_call 53; refine (replace_strings _ g5 _ _ (by omega) hb5.size hg5).mono ?_; rintro e w6 ⟨rfl, hb6⟩; rw [hes])
              | (go_at_call 51; refine (wstr w.heap.size w.heap.size _ _ _ (Bld.keep (a := W0.drew) HBW.out (hb5.trans hb6)) (by simp; omega) (by have := (hb5.trans hb6).size; exact Nat.le_trans hsW this)).mono ?_; rintro e w7 ⟨rfl, hb7, hk7⟩))
          have hcat : ((⟨#[34]⟩ : ByteArray) ++ es ++ ⟨#[34]⟩).data.toList = [34] ++ bl (escS x.f1) ++ [34] := by
            rw [hes]
            show bl ((⟨#[34]⟩ : ByteArray) ++ es ++ ⟨#[34]⟩) = _
            rw [bl_append, bl_append]
          rw [hcat] at hb7
          have hbel7 : Below w.heap.size w w7 := by
            have h1 : Below w.heap.size w W0 := by rw [HW0.out]; exact pw_below_drewN HBW3.out n4
            exact (Below.trans (b := W0.drew) h1.drew ((hb5.trans hb6).mono hsW)).trans hk7.below
          have HB7 := Aside0.mk hb7
          have HBEL7 := Aside0.mk hbel7
          clear hb5 hb6 hb7 hk7 hbel7 hcat hg5 hf1 hf2
          go_wp2_with fail
          go_roundw
          case rel =>
            refine ⟨k + 1, by omega, by go_num, ⟨?_⟩, ⟨HBEL7.out⟩⟩
            rw [HN.out]
            have : paramL x = [59, 32] ++ bl x.f0 ++ [61] ++ ([34] ++ bl (escS x.f1) ++ [34]) := by unfold paramL valL; rw [HNM.out, HV.out]; rfl
            rw [this, ← List.append_assoc]
            exact HB7.out
          case measure => simp [intOf]; omega
      · have hnm' : isTokenB x.f0 = false := by simpa using hnm
        rw [hnm'] at HKN
        have HNM := Lib.hid hnm'
        clear hnm hnm'
        go_wp2_with fail
        rw [← HW1.out, ← HFB.out]
        refine (header_isToken.calls kn _ _ _ HKN.out).mono ?_
        rintro e w2 ⟨rfl, ⟨n, rfl⟩⟩
        go_wp2_with fail
        go_roundw
        case rel =>
          refine ⟨k + 1, by omega, by go_num, ⟨?_⟩, ⟨?_⟩⟩
          · rw [HN.out]
            have : paramL x = [] := by unfold paramL; rw [HNM.out]; rfl
            rw [this, List.append_nil]
            exact (hbl.out.keep HB1.out).keep (pw_below_drewN (Below.refl _ _) n)
          · exact pw_below_drewN (hbel.out.trans (HB1.out.mono hBsz)) n
        case measure => simp [intOf]; omega
    · have hkk : k = l0.length := by omega
      subst hkk
      rw [List.take_length] at hbl
      go_wp2_with fail
      refine (Tryz.Builder_String_any_k w.heap.size w.heap.size (quoteL m l0) wr hbl.out hbel.out.size).mono ?_
      rintro e w6 ⟨rfl, -, hb6, -⟩
      go_wp2_with fail
      go_ret
      exact ⟨rfl, hbel.out.trans hb6⟩
def header_Quote.f (m : ByteArray) (l0 : List S25) : Option ByteArray := if m.size + psum l0 ≤ 137438953472 then some (mkB (quoteL m l0)) else none
theorem header_Quote.calls (m : ByteArray) (A0 : Option Addr) (c0 : Nat) (l0 : List S25) (r : ByteArray) (w : World) (hr0 : Kd.C k25 w A0 l0.length l0) (hc0 : l0.length ≤ c0) (h : header_Quote.f m l0 = some r) :
    Calls Tryz.prog 16 #[.string m, .slice A0 l0.length c0] w fun e w' => e = .returned (.string r) ∧ Below w.heap.size w w' := by
  unfold header_Quote.f at h
  by_cases hs : m.size + psum l0 ≤ 137438953472
  · rw [if_pos hs] at h
    obtain rfl := Option.some.inj h
    exact quote_calls m A0 c0 l0 w hr0 hc0 hs
  · rw [if_neg hs] at h
    cases h
end Go.Proofs.YtieompfmhnpnaaaGreat.H
end
section
namespace Go.Proofs.YtieompfmhnpnaaaGreat.H
open Go.RowKit Go.Proofs.YtieompfmhnpnaaaGreatW.PrintWords Go.Proofs.YtieompfmhnpnaaaGreatW.PrintLast Go.Proofs.YtieompfmhnpnaaaGreatW.PrintMore
attribute [local go_sem] max2_int min2_int max_two min_two max_three min_three max_four min_four
set_option linter.unusedVariables false
set_option linter.unusedSimpArgs false
def stringslite_HasSuffix.f (a0 : ByteArray) (a1 : ByteArray) : Option (Bool) := if (a0.size : Int) ≥ (a1.size : Int) then (if 0 ≤ (wrap64 ((a0.size : Int) - (a1.size : Int))) then (if (wrap64 ((a0.size : Int) - (a1.size : Int))) ≤ (a0.size : Int) then (some ((a0.extract ((wrap64 ((a0.size : Int) - (a1.size : Int))) : Int).toNat a0.size).toList == a1.toList)) else (none)) else (none)) else (some false)
set_option maxHeartbeats 8000000 in
set_option maxRecDepth 100000 in
theorem stringslite_HasSuffix.calls (a0 : ByteArray) (a1 : ByteArray) (r : Bool) (w : World) (h : stringslite_HasSuffix.f a0 a1 = some r) :
    Calls Tryz.prog 98 #[.string a0, .string a1] w fun e w' => e = .returned (.bool r) ∧ Drawn0 w w' := by
  have H : (if (a0.size : Int) ≥ (a1.size : Int) then (if 0 ≤ (wrap64 ((a0.size : Int) - (a1.size : Int))) then (if (wrap64 ((a0.size : Int) - (a1.size : Int))) ≤ (a0.size : Int) then (some ((a0.extract ((wrap64 ((a0.size : Int) - (a1.size : Int))) : Int).toNat a0.size).toList == a1.toList)) else (none)) else (none)) else (some false)) = some r := h
  clear h
  by_cases c3 : (a0.size : Int) ≥ (a1.size : Int)
  · rw [if_pos c3] at H
    have c3b0 : decide ((a1.size : Int) ≤ (a0.size : Int)) = true := decide_eq_true c3
    have c3b1 : decide (a1.size ≤ a0.size) = true := decide_eq_true (Int.ofNat_le.mp c3)
    clear c3
    obtain ⟨ji4, hji4⟩ : ∃ j_ : Int, (wrap64 ((a0.size : Int) - (a1.size : Int))) = j_ := ⟨_, rfl⟩
    replace H : (if 0 ≤ (ji4) then (if (ji4) ≤ (a0.size : Int) then (some ((a0.extract ((ji4) : Int).toNat a0.size).toList == a1.toList)) else (none)) else (none)) = some r := by first | (rw [hji4] at H; exact H) | (simp only [hji4] at H ⊢; exact H)
    have hji4w : (IntKind.i64.wrap ((a0.size : Int) - (a1.size : Int))) = ji4 := (i64_w _).trans hji4
    by_cases c5 : 0 ≤ (ji4)
    · rw [if_pos c5] at H
      have c5b0 := eq_true c5
      have c5b1 : decide (0 ≤ (ji4)) = true := decide_eq_true c5
      clear c5
      by_cases c6 : (ji4) ≤ (a0.size : Int)
      · rw [if_pos c6] at H
        have c6b0 := eq_true c6
        have c6b1 : decide ((ji4) ≤ (a0.size : Int)) = true := decide_eq_true c6
        clear c6
        obtain rfl := Option.some.inj H
        go_enter Tryz.func98, Tryz.ntmps98
        go_wp2
        go_ret
        exact ⟨by first | rfl | (simp; done) | (simp only [← hji4] <;> (first | rfl | simp)) | (simp [*]; done), by repeat (first | exact Drawn0.refl _ | apply Drawn0.step)⟩
      · rw [if_neg c6] at H
        exact absurd H (by simp)
    · rw [if_neg c5] at H
      exact absurd H (by simp)
  · rw [if_neg c3] at H
    have c3b0 : decide ((a1.size : Int) ≤ (a0.size : Int)) = false := decide_eq_false c3
    have c3b1 : decide (a1.size ≤ a0.size) = false := decide_eq_false (fun h => c3 (Int.ofNat_le.mpr h))
    clear c3
    obtain rfl := Option.some.inj H
    go_enter Tryz.func98, Tryz.ntmps98
    go_wp2
    go_ret
    exact ⟨by first | rfl | (simp; done) | (simp [*]; done), by repeat (first | exact Drawn0.refl _ | apply Drawn0.step)⟩
def stringslite_TrimSuffix.f (a0 : ByteArray) (a1 : ByteArray) : Option (ByteArray) := (stringslite_HasSuffix.f a0 a1).bind fun t261 => (if t261 = true then (if 0 ≤ (wrap64 ((a0.size : Int) - (a1.size : Int))) then (if (wrap64 ((a0.size : Int) - (a1.size : Int))) ≤ (a0.size : Int) then (some (a0.extract 0 ((wrap64 ((a0.size : Int) - (a1.size : Int))) : Int).toNat)) else (none)) else (none)) else (some a0))
set_option maxHeartbeats 8000000 in
set_option maxRecDepth 100000 in
theorem stringslite_TrimSuffix.calls (a0 : ByteArray) (a1 : ByteArray) (r : ByteArray) (w : World) (h : stringslite_TrimSuffix.f a0 a1 = some r) :
    Calls Tryz.prog 87 #[.string a0, .string a1] w fun e w' => e = .returned (.string r) ∧ Drawn0 w w' := by
  have H : ((stringslite_HasSuffix.f a0 a1).bind fun t261 => (if t261 = true then (if 0 ≤ (wrap64 ((a0.size : Int) - (a1.size : Int))) then (if (wrap64 ((a0.size : Int) - (a1.size : Int))) ≤ (a0.size : Int) then (some (a0.extract 0 ((wrap64 ((a0.size : Int) - (a1.size : Int))) : Int).toNat)) else (none)) else (none)) else (some a0))) = some r := h
  clear h
  replace H := Option.bind_eq_some_iff.mp H
  obtain ⟨t261, A30, H⟩ := H
  replace H : (if t261 = true then (if 0 ≤ (wrap64 ((a0.size : Int) - (a1.size : Int))) then (if (wrap64 ((a0.size : Int) - (a1.size : Int))) ≤ (a0.size : Int) then (some (a0.extract 0 ((wrap64 ((a0.size : Int) - (a1.size : Int))) : Int).toNat)) else (none)) else (none)) else (some a0)) = some r := H
  have A3 := Aside0.mk A30
  clear A30
  by_cases c4 : t261 = true
  · subst c4
    have H1 : (if 0 ≤ (wrap64 ((a0.size : Int) - (a1.size : Int))) then (if (wrap64 ((a0.size : Int) - (a1.size : Int))) ≤ (a0.size : Int) then (some (a0.extract 0 ((wrap64 ((a0.size : Int) - (a1.size : Int))) : Int).toNat)) else (none)) else (none)) = some r := by rw [if_pos rfl] at H; exact H
    clear H
    have H := H1
    clear H1
    obtain ⟨ji5, hji5⟩ : ∃ j_ : Int, (wrap64 ((a0.size : Int) - (a1.size : Int))) = j_ := ⟨_, rfl⟩
    replace H : (if 0 ≤ (ji5) then (if (ji5) ≤ (a0.size : Int) then (some (a0.extract 0 ((ji5) : Int).toNat)) else (none)) else (none)) = some r := by first | (rw [hji5] at H; exact H) | (simp only [hji5] at H ⊢; exact H)
    (try rw [hji5] at A3)
    have hji5w : (IntKind.i64.wrap ((a0.size : Int) - (a1.size : Int))) = ji5 := (i64_w _).trans hji5
    by_cases c6 : 0 ≤ (ji5)
    · rw [if_pos c6] at H
      have c6b0 := eq_true c6
      have c6b1 : decide (0 ≤ (ji5)) = true := decide_eq_true c6
      clear c6
      by_cases c7 : (ji5) ≤ (a0.size : Int)
      · rw [if_pos c7] at H
        have c7b0 := eq_true c7
        have c7b1 : decide ((ji5) ≤ (a0.size : Int)) = true := decide_eq_true c7
        clear c7
        obtain rfl := Option.some.inj H
        go_enter Tryz.func87, Tryz.ntmps87
        go_wp2_with (first | ((with_reducible refine gate_callee (f := 98) rfl ?_); refine goesL_ (some 7) rfl rfl Tryz.func98 (by kernel_rfl) rfl #[.string a0, .string a1] rfl (by (try simp only [List.map_toArray, List.map_cons, List.map_nil]); first | done | rfl | (simp only [List.length_drop, List.length_take]; rfl)) ?_; (with_reducible refine (stringslite_HasSuffix.calls a0 a1 true _ A3.out).mono ?_); rintro e w' ⟨rfl, ⟨nd, rfl⟩⟩; refine ⟨_, rfl, ?_⟩))
        go_ret
        exact ⟨by first | rfl | (simp; done) | (simp only [← hji5] <;> (first | rfl | simp)) | (simp [*]; done), by repeat (first | exact Drawn0.refl _ | apply Drawn0.step)⟩
      · rw [if_neg c7] at H
        exact absurd H (by simp)
    · rw [if_neg c6] at H
      exact absurd H (by simp)
  · replace c4 := Bool.eq_false_iff.mpr c4
    subst c4
    have H1 : (some a0) = some r := by rw [if_neg (show ¬ (false = true) by decide)] at H; exact H
    clear H
    have H := H1
    clear H1
    obtain rfl := Option.some.inj H
    go_enter Tryz.func87, Tryz.ntmps87
    go_wp2_with (first | ((with_reducible refine gate_callee (f := 98) rfl ?_); refine goesL_ (some 7) rfl rfl Tryz.func98 (by kernel_rfl) rfl #[.string a0, .string a1] rfl (by (try simp only [List.map_toArray, List.map_cons, List.map_nil]); first | done | rfl | (simp only [List.length_drop, List.length_take]; rfl)) ?_; (with_reducible refine (stringslite_HasSuffix.calls a0 a1 false _ A3.out).mono ?_); rintro e w' ⟨rfl, ⟨nd, rfl⟩⟩; refine ⟨_, rfl, ?_⟩))
    go_ret
    exact ⟨by first | rfl | (simp; done) | (simp [*]; done), by repeat (first | exact Drawn0.refl _ | apply Drawn0.step)⟩
def strings_TrimSuffix.f (a0 : ByteArray) (a1 : ByteArray) : Option (ByteArray) := (stringslite_TrimSuffix.f a0 a1).bind fun t262 => (some t262)
set_option maxHeartbeats 8000000 in
set_option maxRecDepth 100000 in
theorem strings_TrimSuffix.calls (a0 : ByteArray) (a1 : ByteArray) (r : ByteArray) (w : World) (h : strings_TrimSuffix.f a0 a1 = some r) :
    Calls Tryz.prog 63 #[.string a0, .string a1] w fun e w' => e = .returned (.string r) ∧ Drawn0 w w' := by
  have H : ((stringslite_TrimSuffix.f a0 a1).bind fun t262 => (some t262)) = some r := h
  clear h
  replace H := Option.bind_eq_some_iff.mp H
  obtain ⟨t262, A30, H⟩ := H
  replace H : (some t262) = some r := H
  have A3 := Aside0.mk A30
  clear A30
  obtain rfl := Option.some.inj H
  go_enter Tryz.func63, Tryz.ntmps63
  go_wp2_with (first | ((with_reducible refine gate_callee (f := 87) rfl ?_); refine goesL_ (some 7) rfl rfl Tryz.func87 (by kernel_rfl) rfl #[.string a0, .string a1] rfl (by (try simp only [List.map_toArray, List.map_cons, List.map_nil]); first | done | rfl | (simp only [List.length_drop, List.length_take]; rfl)) ?_; (with_reducible refine (stringslite_TrimSuffix.calls a0 a1 t262 _ A3.out).mono ?_); rintro e w' ⟨rfl, ⟨nd, rfl⟩⟩; refine ⟨_, rfl, ?_⟩))
  go_ret
  exact ⟨by first | rfl | (simp; done) | (simp [*]; done), by repeat (first | exact Drawn0.refl _ | apply Drawn0.step)⟩
def missivelaw09_solid.l0 : Nat → ByteArray → List Int → Int → Option (ByteArray)
  | 0, _, _, _ => none
  | k + 1, x0, x3, x4 => if x4 < (x0.size : Int) then (if 0 ≤ x4 then (if (bt x0 x4) = 32 then (missivelaw09_solid.l0 k x0 x3 (wrap64 (x4 + 1))) else (if (bt x0 x4) = 9 then (missivelaw09_solid.l0 k x0 x3 (wrap64 (x4 + 1))) else (if (bt x0 x4) = 13 then (missivelaw09_solid.l0 k x0 x3 (wrap64 (x4 + 1))) else (if (bt x0 x4) = 10 then (missivelaw09_solid.l0 k x0 x3 (wrap64 (x4 + 1))) else (if x3.length < 140737488355328 then (missivelaw09_solid.l0 k x0 (x3 ++ [bt x0 x4]) (wrap64 (x4 + 1))) else (none)))))) else (none)) else (some (strOfNums x3))
def missivelaw09_solid.f (k : Nat) (a0 : ByteArray) : Option (ByteArray) := missivelaw09_solid.l0 k a0 ([] : List Int) 0
theorem missivelaw09_solid.mono_l : ∀ k, (∀ y0 y1 y2, LeO (missivelaw09_solid.l0 k y0 y1 y2) (missivelaw09_solid.l0 (k + 1) y0 y1 y2))
  | 0 => fun _ _ _ r h => by simp [missivelaw09_solid.l0] at h
  | k + 1 => by
    have ih0 := missivelaw09_solid.mono_l k
    · intro y0 y1 y2
      unfold missivelaw09_solid.l0
      repeat' first
      | (with_reducible exact ih0 _ _ _)
      | (with_reducible exact LeO.refl _)
      | (with_reducible exact LeO.none _)
      | (with_reducible refine LeO.ite ?_ ?_)
      | (with_reducible refine LeO.bind ?_ (fun _ => ?_))
      | exact ih0 _ _ _
      | exact LeO.none _
      | refine LeO.ite ?_ ?_
      | refine LeO.bind ?_ (fun _ => ?_)
theorem missivelaw09_solid.mono : ∀ a0 k, LeO (missivelaw09_solid.f k a0) (missivelaw09_solid.f (k + 1) a0) := by
  intro a0 k
  have ih0 := missivelaw09_solid.mono_l k
  unfold missivelaw09_solid.f
  repeat' first
      | (with_reducible exact ih0 _ _ _)
      | (with_reducible exact LeO.refl _)
      | (with_reducible exact LeO.none _)
      | (with_reducible refine LeO.ite ?_ ?_)
      | (with_reducible refine LeO.bind ?_ (fun _ => ?_))
      | exact ih0 _ _ _
      | exact LeO.none _
      | refine LeO.ite ?_ ?_
      | refine LeO.bind ?_ (fun _ => ?_)
end Go.Proofs.YtieompfmhnpnaaaGreat.H
end
section
namespace Go.Proofs.YtieompfmhnpnaaaGreat.H
open Go.RowKit Go.Proofs.YtieompfmhnpnaaaGreatW.PrintWords Go.Proofs.YtieompfmhnpnaaaGreatW.PrintLast Go.Proofs.YtieompfmhnpnaaaGreatW.PrintMore
set_option linter.unusedVariables false
set_option linter.unusedSimpArgs false
structure FrameX (ex : Nat → Prop) (W W' : World) : Prop where
  os : W'.os = W.os
  tape : W'.tape = W.tape
  output : W'.output = W.output
  size : W.heap.size ≤ W'.heap.size
  block : ∀ i, i < W.heap.size → ¬ ex i → W'.heap[i]? = W.heap[i]?
theorem FrameX.refl (ex : Nat → Prop) (W : World) : FrameX ex W W := ⟨rfl, rfl, rfl, Nat.le_refl _, fun _ _ _ => rfl⟩
theorem FrameX.trans {ex : Nat → Prop} {a b c : World} (h : FrameX ex a b) (k : FrameX ex b c) : FrameX ex a c :=
  ⟨k.os.trans h.os, k.tape.trans h.tape, k.output.trans h.output, Nat.le_trans h.size k.size, fun i hi he => (k.block i (Nat.lt_of_lt_of_le hi h.size) he).trans (h.block i hi he)⟩
theorem FrameX.of_below {ex : Nat → Prop} {a b : World} (h : Below a.heap.size a b) : FrameX ex a b := ⟨h.os, h.tape, h.output, h.size, fun i hi _ => h.block i hi⟩
theorem FrameX.imp {ex ex' : Nat → Prop} {a b : World} (h : FrameX ex a b) (hi : ∀ i, i < a.heap.size → ex i → ex' i) : FrameX ex' a b := ⟨h.os, h.tape, h.output, h.size, fun i hl he => h.block i hl (fun e => he (hi i hl e))⟩
theorem FrameX.setCell {ex : Nat → Prop} {a b : World} (h : FrameX ex a b) (p : Addr) (hp : ex p.block) (v : Value) : FrameX ex a (b.setCell p v) :=
  h.trans ⟨rfl, rfl, rfl, by simp [World.setCell], fun i _ he => Below.heap_setCell _ _ _ _ (fun e => he (e ▸ hp))⟩
theorem FrameX.drewN {ex : Nat → Prop} {a b : World} (h : FrameX ex a b) (n : Nat) : FrameX ex a (b.drewN n) := ⟨h.os, h.tape, h.output, h.size, h.block⟩
theorem FrameX.grown {ex : Nat → Prop} {a b c : World} {row : Option Nat} (h : FrameX ex a b) (hg : b.grownBy c row) (hr : ∀ k, row = some k → k < a.heap.size → ex k) : FrameX ex a c :=
  ⟨hg.os.trans h.os, hg.tape.trans h.tape, hg.output.trans h.output, Nat.le_trans h.size hg.size, fun i hi he => (hg.block i (Nat.lt_of_lt_of_le hi h.size) (fun e => he (hr i e.symm hi))).trans (h.block i hi he)⟩
def strVals (l : List ByteArray) : List Value := l.map Value.string
def addV (vs : List ByteArray) (s : ByteArray) : List ByteArray := if (trimS s).size = 0 then vs else vs ++ [trimS s]
set_option maxHeartbeats 1000000 in
set_option maxRecDepth 100000 in
theorem add_calls (n0 b1 : Nat) (vV : Value) (vs : List ByteArray) (s : ByteArray) (W : World) (hb : n0 ≤ b1) (hc : W.heap[b1]? = some (.cells #[vV] 42 (0, 0)))
    (hown : W.ownsRow n0 9 1 vV vs.length (strVals vs)) (hlen : vs.length ≤ 1099511627776) (hs : s.size ≤ 1099511627776) (hn : n0 ≤ W.heap.size) :
    Calls Tryz.prog 59 #[.string s, .pointer (some ⟨b1, 0, none⟩)] W fun e w' => e = .returned (.tuple #[]) ∧ ∃ vV', w'.heap[b1]? = some (.cells #[vV'] 42 (0, 0)) ∧ w'.ownsRow n0 9 1 vV' (addV vs s).length (strVals (addV vs s)) ∧
      (vV'.ownBlock = vV.ownBlock ∨ ∃ b, vV'.ownBlock = some b ∧ W.heap.size ≤ b) ∧ FrameX (fun i => i = b1 ∨ some i = vV.ownBlock) W w' := by
  obtain ⟨i0, hi, hz0, hz1, hz2⟩ := info_parts info9
  obtain ⟨kt, hkt⟩ := (trim_ev s hs).rounds
  have HT := Aside0.mk hkt
  clear hkt
  have hcell : W.cell? ⟨b1, 0, none⟩ = some vV := by simp [World.cell?, hc]
  have hfz : W.frozen? ⟨b1, 0, none⟩ = false := by simp [World.frozen?, hc]
  by_cases hz : (trimS s).size = 0
  · have hve : (trimS s).toList.isEmpty = true := by rw [toList_bl, List.isEmpty_iff_length_eq_zero, bl_length]; exact hz
    have hadd : addV vs s = vs := by unfold addV; rw [if_pos hz]
    have HA := Lib.hid hadd
    have HC := Aside0.mk hc
    clear hadd hz hc
    go_enter Tryz.func59, Tryz.ntmps59
    go_wp2_with fail
    refine (text_Trim.calls kt _ _ _ HT.out).mono ?_
    rintro e w1 ⟨rfl, ⟨n, rfl⟩⟩
    go_wp2_with fail
    go_end0
    rw [HA.out]
    exact ⟨rfl, vV, HC.out, hown, .inl rfl, (FrameX.refl _ W).drewN n⟩
  · have hve : (trimS s).toList.isEmpty = false := by
      rw [toList_bl]
      cases h : bl (trimS s) with
      | nil => exfalso; apply hz; rw [← bl_length, h]; rfl
      | cons _ _ => rfl
    have hadd : addV vs s = vs ++ [trimS s] := by unfold addV; rw [if_neg hz]
    have HA := Lib.hid hadd
    have HC := Aside0.mk hc
    clear hadd hz hc
    go_enter Tryz.func59, Tryz.ntmps59
    go_wp2_with fail
    refine (text_Trim.calls kt _ _ _ HT.out).mono ?_
    rintro e w1 ⟨rfl, ⟨n, rfl⟩⟩
    have hcell2 : ((W.drewN n).alloc (Obj.cells #[Value.string (trimS s)] 9)).cell? ⟨W.heap.size, 0, none⟩ = some (Value.string (trimS s)) := by
      rw [show (⟨W.heap.size, 0, none⟩ : Addr) = ⟨(W.drewN n).heap.size, 0, none⟩ from rfl, World.cell?_alloc_new]
      rfl
    go_wp2_with (at_builtin; refine wpList_append_own_at _ rfl _ _ 42 rfl n0 9 i0 (.string ⟨#[]⟩) 1 16 Tryz.underlying42 hi hz0 hz1 hz2 rfl (by decide) _ _ _ rfl ((pw_own_drewN hown n).alloc _) ⟨W.heap.size, 0, none⟩ 1 1 [.string (trimS s)] rfl rfl ?c1 ?c2 ?c3 ?c4 ?c5 ?_)
    case c1 =>
      intro j u hj
      match j, hj with
      | 0, hj => simp at hj; subst hj; rw [add_plain]; exact hcell2
    case c2 => intro u hu; simp at hu; subst hu; rfl
    case c3 => unfold maxLen; omega
    case c4 => omega
    case c5 => simp; omega
    intro v' w2 hown' hgrow _ hat
    have hb1lt : b1 < W.heap.size := (Array.getElem?_eq_some_iff.1 HC.out).1
    have hne : some b1 ≠ vV.ownBlock := fun e => by
      obtain ⟨cells, hcc⟩ := own_typed hown b1 e.symm
      rw [HC.out] at hcc
      injection hcc with hcc
      injection hcc with _ h2 _
      exact absurd h2 (by decide)
    have hold : w2.heap[b1]? = some (.cells #[vV] 42 (0, 0)) := by
      rw [hgrow.block b1 (by simp; omega) (by simpa using hne)]
      exact (Lib.alloc_old (W.drewN n) _ b1 hb1lt).trans HC.out
    have hcell3 : w2.cell? ⟨b1, 0, none⟩ = some vV := by simp [World.cell?, hold]
    have hfz3 : w2.frozen? ⟨b1, 0, none⟩ = false := by simp [World.frozen?, hold]
    have HO := Aside0.mk hown'
    have HG := Aside0.mk hgrow
    have HL := Aside0.mk hold
    have HAT := Aside0.mk hat
    obtain ⟨ao, n', cap, rfl⟩ : ∃ ao n' cap, v' = .slice ao n' cap := by
      obtain ⟨A, c, e⟩ := own_slice hown'
      exact ⟨_, _, _, e⟩
    clear hown' hgrow hold hcell2 hat
    go_wp2_with fail
    go_end0
    rw [HA.out]
    have hlt2 : b1 < w2.heap.size := (Array.getElem?_eq_some_iff.1 HL.out).1
    refine ⟨rfl, .slice ao n' cap, ?_, ?_, ?_, ?_⟩
    · have := blk_set HL.out 0 (.slice ao n' cap)
      simpa using this
    · have e : strVals (vs ++ [trimS s]) = strVals vs ++ [Value.string (trimS s)] := by simp [strVals]
      rw [e, List.length_append]
      have hne2 : (Value.slice ao n' cap).ownBlock ≠ some b1 := fun e2 => by
        obtain ⟨cells, hcc⟩ := own_typed HO.out b1 e2
        rw [HL.out] at hcc
        injection hcc with hcc
        injection hcc with _ h2 _
        exact absurd h2 (by decide)
      exact HO.out.kept (grownBy_setCell' w2 b1 _) (.inr hne2)
    · rcases HAT.out with h | h
      · exact .inl h
      · exact .inr ⟨_, h, by simp⟩
    · refine FrameX.setCell ?_ ⟨b1, 0, none⟩ (.inl rfl) _
      refine (((FrameX.refl _ W).drewN n).trans (FrameX.of_below ((Below.refl _ _).alloc (Nat.le_refl _) _))).grown HG.out (fun k hk _ => .inr hk.symm)
end Go.Proofs.YtieompfmhnpnaaaGreat.H
namespace Go.Proofs.YtieompfmhnpnaaaGreat.H
open Go.RowKit Go.Proofs.YtieompfmhnpnaaaGreatW.PrintWords Go.Proofs.YtieompfmhnpnaaaGreatW.PrintLast Go.Proofs.YtieompfmhnpnaaaGreatW.PrintMore
set_option linter.unusedVariables false
set_option linter.unusedSimpArgs false
def fieldVals (l : List S35) : List Value := l.flatMap fun f => [.string f.f0, .string f.f1]
theorem fieldVals_length (l : List S35) : (fieldVals l).length = l.length * 2 := by
  induction l with
  | nil => rfl
  | cons x l ih => unfold fieldVals at *; simp at *; omega
theorem fieldVals_snoc (l : List S35) (f : S35) : fieldVals (l ++ [f]) = fieldVals l ++ [.string f.f0, .string f.f1] := by simp [fieldVals]
def joinS (vs : List ByteArray) : ByteArray := mkB (Lib.join (vs.map bl) [32])
theorem join_calls (n0 : Nat) (vV : Value) (vs : List ByteArray) (W : World) (hV : W.ownsRow n0 9 1 vV vs.length (strVals vs)) (hlen : vs.length ≤ 1099511627776) (hj : (joinS vs).size ≤ 140737488355328) :
    Calls Tryz.prog 58 #[vV, .string ⟨#[32]⟩] W fun e w' => e = .returned (.string (joinS vs)) ∧ Below W.heap.size W w' := by
  cases vs with
  | nil =>
    obtain ⟨A, c, rfl⟩ := own_slice hV
    refine (Tryz.strings_Join_none A c ⟨#[32]⟩ W).mono ?_
    rintro e w' ⟨rfl, rfl⟩
    exact ⟨rfl, Below.refl _ _⟩
  | cons x vs =>
    obtain ⟨g, cap, rfl, hg, hn⟩ := hV.form (by simp)
    have hcells : ∀ (j : Nat) y, (x :: vs)[j]? = some y → W.cell? ⟨g, 0 + j, none⟩ = some (.string y) := fun j y hy => by
      have hj2 : j < (x :: vs).length := (List.getElem?_eq_some_iff.1 hy).1
      rw [Nat.zero_add, hV.cellAt j (by omega)]
      unfold strVals
      rw [List.getElem?_map, hy]
      rfl
    refine (Tryz.strings_Join g 0 cap (x :: vs) ⟨#[32]⟩ W hcells ?_ (by omega) ?_ ?_).mono ?_
    · exact World.block_lt_of_cell? W ⟨g, 0 + 0, none⟩ (hcells 0 x rfl)
    · rcases hV.2 with ⟨h, _⟩ | ⟨g', cap', cur, h, _, _, hnc, _⟩
      · cases h
      · injection h with _ _ h3
        omega
    · have := hj
      unfold joinS at this
      rw [mkB_size] at this
      exact this
    · rintro e w' ⟨rfl, hb⟩
      exact ⟨rfl, hb⟩
theorem keep2 {W w w' : World} {p1 p2 : Addr} {v1 v2 : Value} (hb : Below W.heap.size w w') (h : w.cell? p1 = some v1 ∧ w.cell? p2 = some v2) (he : w.heap.size = W.heap.size := by rfl) :
    w'.cell? p1 = some v1 ∧ w'.cell? p2 = some v2 := by
  rw [← he] at hb
  exact ⟨pw_cell_below hb h.1, pw_cell_below hb h.2⟩
theorem keep2s {w : World} {g b0 b1 j : Nat} {v1 v2 u : Value} (h0 : g ≠ b0) (h1 : g ≠ b1) (h : w.cell? ⟨b0, 0, none⟩ = some v1 ∧ w.cell? ⟨b1, 0, none⟩ = some v2) :
    (w.setCell ⟨g, j, none⟩ u).cell? ⟨b0, 0, none⟩ = some v1 ∧ (w.setCell ⟨g, j, none⟩ u).cell? ⟨b1, 0, none⟩ = some v2 :=
  ⟨(World.cell?_setCell_far w ⟨g, j, none⟩ ⟨b0, 0, none⟩ u h0).trans h.1, (World.cell?_setCell_far w ⟨g, j, none⟩ ⟨b1, 0, none⟩ u h1).trans h.2⟩
set_option maxHeartbeats 2000000 in
set_option maxRecDepth 100000 in
theorem finish_calls (n0 b0 b1 : Nat) (vF vV : Value) (fs : List S35) (f : S35) (vs : List ByteArray) (W : World) (hb0 : n0 ≤ b0) (hb1 : n0 ≤ b1) (hc0 : W.heap[b0]? = some (.cells #[vF] 33 (0, 0))) (hc1 : W.heap[b1]? = some (.cells #[vV] 42 (0, 0)))
    (hF : W.ownsRow n0 35 2 vF (fs.length + 1) (fieldVals (fs ++ [f]))) (hV : W.ownsRow n0 9 1 vV vs.length (strVals vs)) (hlen : vs.length ≤ 1099511627776) (hfl : fs.length ≤ 1099511627776) (hj : (joinS vs).size ≤ 140737488355328) (hn : n0 ≤ W.heap.size) :
    Calls Tryz.prog 57 #[.pointer (some ⟨b0, 0, none⟩), .pointer (some ⟨b1, 0, none⟩)] W fun e w' => e = .returned (.tuple #[]) ∧ w'.heap[b0]? = some (.cells #[vF] 33 (0, 0)) ∧ w'.heap[b1]? = some (.cells #[.slice none 0 0] 42 (0, 0)) ∧
      w'.ownsRow n0 35 2 vF (fs.length + 1) (fieldVals (fs ++ [⟨f.f0, joinS vs⟩])) ∧ FrameX (fun i => i = b1 ∨ some i = vF.ownBlock) W w' := by
  obtain ⟨g, cap, rfl, hg, hn2⟩ := hF.form (by omega)
  have hfl2 := fieldVals_length fs
  have htgt : W.cell? ⟨g, fs.length * 2 + 1, none⟩ = some (.string f.f1) := by
    rw [hF.cellAt (fs.length * 2 + 1) (by omega), fieldVals_snoc, List.getElem?_append_right (by omega), hfl2]
    simp
  have hfz := hF.frozenAt (fs.length * 2 + 1)
  have HF := Aside0.mk hF
  clear hF
  generalize hM : fs.length = M at *
  generalize hN : M + 1 = N at *
  have hcell0 : W.cell? ⟨b0, 0, none⟩ = some (.slice (some ⟨g, 0, none⟩) N cap) := by simp [World.cell?, hc0]
  have hcell1 : W.cell? ⟨b1, 0, none⟩ = some vV := by simp [World.cell?, hc1]
  have HC0 := Aside0.mk hc0
  have HC1 := Aside0.mk hc1
  have HM := Lib.hid hM
  have HN := Lib.hid hN
  have q1 : IntKind.i64.wrap ((N : Int) - 1) = (N : Int) - 1 := IntWalk.i64_in _ (by omega)
  have q2 : ((N : Int) - 1).toNat = M := by omega
  have q3 : (0 : Int) ≤ (N : Int) - 1 := by omega
  have q4 : (N : Int) - 1 < (N : Int) := by omega
  have q5 : (0 : Int) < (N : Int) := by omega
  have Q2 := Lib.hid q2
  have q6 : (1 : Int) ≤ (N : Int) := by omega
  have q7 : 0 < N := by omega
  have q8 : 1 ≤ N := by omega
  have hg0 : g ≠ b0 := fun e => by subst e; obtain ⟨cells, hcc⟩ := own_typed HF.out _ rfl; rw [hc0] at hcc; injection hcc with hcc; injection hcc with _ h2 _; exact absurd h2 (by decide)
  have hg1 : g ≠ b1 := fun e => by subst e; obtain ⟨cells, hcc⟩ := own_typed HF.out _ rfl; rw [hc1] at hcc; injection hcc with hcc; injection hcc with _ h2 _; exact absurd h2 (by decide)
  clear hc0 hc1 hM hN hfl2 q2
  go_enter Tryz.func57, Tryz.ntmps57
  go_wp2_with fail
  have q2 := Q2.out
  have hglt : g < W.heap.size := World.block_lt_of_cell? W _ htgt
  go_region_held3 (fun w' => w'.cell? ⟨b0, 0, none⟩ = some (.slice (some ⟨g, 0, none⟩) N cap) ∧ w'.cell? ⟨b1, 0, none⟩ = some vV)
    (first | go_keep | (exact keep2 (by assumption) (by assumption)) | (exact keep2s hg0 hg1 (by assumption)))
    (first
      | (go_at_call 58; refine (join_calls n0 vV vs _ (pw_own_drewN hV _) hlen hj).mono ?_; rintro e w3 ⟨rfl, hb3⟩; have ht3 := (hb3.cell (p := ⟨g, M * 2 + 1, none⟩) hglt).trans htgt; have hf3 := (hb3.frozen (p := ⟨g, M * 2 + 1, none⟩) hglt).trans hfz))
  have hb1lt : b1 < W.heap.size := World.block_lt_of_cell? W _ hcell1
  have HB3 := Aside0.mk hb3
  have hd1 : (w3.setCell ⟨g, M * 2 + 1, none⟩ (.string (joinS vs))).cell? ⟨b1, 0, none⟩ = some vV := (World.cell?_setCell_far _ ⟨g, M * 2 + 1, none⟩ ⟨b1, 0, none⟩ _ hg1).trans ((hb3.cell (p := ⟨b1, 0, none⟩) hb1lt).trans hcell1)
  have hfd : (w3.setCell ⟨g, M * 2 + 1, none⟩ (.string (joinS vs))).frozen? ⟨b1, 0, none⟩ = false := by
    rw [World.frozen?_setCell]
    refine (hb3.frozen (p := ⟨b1, 0, none⟩) hb1lt).trans ?_
    have := HC1.out
    simp [World.frozen?, this]
  clear hb3 ht3 hf3
  go_wp2_with fail
  go_end0
  obtain ⟨w4, hw4⟩ : ∃ w4, w4 = w3.setCell ⟨g, M * 2 + 1, none⟩ (.string (joinS vs)) := ⟨_, rfl⟩
  have hW3 : Below W.heap.size W w3 := (pw_below_drewN (Below.refl _ _) _).trans HB3.out
  have hb0lt : b0 < W.heap.size := World.block_lt_of_cell? W _ hcell0
  have e0 : w4.heap[b0]? = some (.cells #[.slice (some ⟨g, 0, none⟩) N cap] 33 (0, 0)) := by
    rw [hw4]
    exact blk_far ((hW3.block b0 hb0lt).trans HC0.out) (Ne.symm hg0) _
  have e1 : w4.heap[b1]? = some (.cells #[vV] 42 (0, 0)) := by
    rw [hw4]
    exact blk_far ((hW3.block b1 hb1lt).trans HC1.out) (Ne.symm hg1) _
  have h3 : w3.ownsRow n0 35 2 (.slice (some ⟨g, 0, none⟩) N cap) N (fieldVals (fs ++ [f])) := pw_own_below HF.out hW3
  have h4 : w4.ownsRow n0 35 2 (.slice (some ⟨g, 0, none⟩) N cap) N (fieldVals (fs ++ [⟨f.f0, joinS vs⟩])) := by
    have := (h3.stored (M * 2 + 1) (.string (joinS vs))).1
    rw [hw4]
    have e : (fieldVals (fs ++ [f])).set (M * 2 + 1) (.string (joinS vs)) = fieldVals (fs ++ [⟨f.f0, joinS vs⟩]) := by
      have hl := fieldVals_length fs
      rw [HM.out] at hl
      rw [fieldVals_snoc, fieldVals_snoc, List.set_append_right _ _ (by omega), hl]
      simp
    rw [e] at this
    exact this
  have hb01 : b1 ≠ b0 := fun e => by rw [e, e0] at e1; injection e1 with e1; injection e1 with _ h2 _; exact absurd h2 (by decide)
  rw [← hw4]
  refine ⟨rfl, blk_far e0 (Ne.symm hb01) _, ?_, ?_, ?_⟩
  · have := blk_set e1 0 (.slice none 0 0)
    simpa using this
  · exact h4.kept (grownBy_setCell' w4 b1 _) (.inr (by simp [Value.ownBlock]; exact hg1))
  · refine FrameX.setCell ?_ ⟨b1, 0, none⟩ (.inl rfl) _
    rw [hw4]
    exact (FrameX.of_below hW3).setCell ⟨g, M * 2 + 1, none⟩ (.inr rfl) _
set_option maxHeartbeats 2000000 in
set_option maxRecDepth 100000 in
theorem finish_none (n0 b0 b1 : Nat) (vF vV : Value) (W : World) (hc0 : W.heap[b0]? = some (.cells #[vF] 33 (0, 0))) (hc1 : W.heap[b1]? = some (.cells #[vV] 42 (0, 0)))
    (hF : W.ownsRow n0 35 2 vF 0 []) :
    Calls Tryz.prog 57 #[.pointer (some ⟨b0, 0, none⟩), .pointer (some ⟨b1, 0, none⟩)] W fun e w' => e = .returned (.tuple #[]) ∧ w'.heap[b0]? = some (.cells #[vF] 33 (0, 0)) ∧ w'.heap[b1]? = some (.cells #[.slice none 0 0] 42 (0, 0)) ∧
      w'.ownsRow n0 35 2 vF 0 [] ∧ FrameX (fun i => i = b1 ∨ some i = vF.ownBlock) W w' := by
  obtain ⟨A, c, rfl⟩ := own_slice hF
  have hcell0 : W.cell? ⟨b0, 0, none⟩ = some (.slice A 0 c) := by simp [World.cell?, hc0]
  have hcell1 : W.cell? ⟨b1, 0, none⟩ = some vV := by simp [World.cell?, hc1]
  have hfd : W.frozen? ⟨b1, 0, none⟩ = false := by simp [World.frozen?, hc1]
  have hb01 : b1 ≠ b0 := fun e => by rw [e, hc0] at hc1; injection hc1 with e1; injection e1 with _ h2 _; exact absurd h2 (by decide)
  have hne : (Value.slice A 0 c).ownBlock ≠ some b1 := fun e => by
    obtain ⟨cells, hcc⟩ := own_typed hF b1 e
    rw [hc1] at hcc
    injection hcc with hcc
    injection hcc with _ h2 _
    exact absurd h2 (by decide)
  have HC0 := Aside0.mk hc0
  have HC1 := Aside0.mk hc1
  have HF := Aside0.mk hF
  clear hc0 hc1 hF
  go_enter Tryz.func57, Tryz.ntmps57
  go_wp2_with fail
  go_end0
  refine ⟨rfl, blk_far HC0.out (Ne.symm hb01) _, ?_, HF.out.kept (grownBy_setCell' W b1 _) (.inr hne), (FrameX.refl _ W).setCell ⟨b1, 0, none⟩ (.inl rfl) _⟩
  have := blk_set HC1.out 0 (.slice none 0 0)
  simpa using this
end Go.Proofs.YtieompfmhnpnaaaGreat.H
end
section
namespace Go.Proofs.YtieompfmhnpnaaaGreat.H
open Go.RowKit Go.Proofs.YtieompfmhnpnaaaGreatW.PrintWords Go.Proofs.YtieompfmhnpnaaaGreatW.PrintLast Go.Proofs.YtieompfmhnpnaaaGreatW.PrintMore
set_option linter.unusedVariables false
set_option linter.unusedSimpArgs false
attribute [local go_sem] Oper.semAt_some
theorem wide_fn (f : Nat) : Fence.wide.fn f = True := rfl
theorem wide_depth : Fence.wide.depth = none := rfl
theorem wide_fn_r (f l : Nat) : (Fence.wide.inRound l).fn f = True := rfl
theorem wide_depth_r (l : Nat) : (Fence.wide.inRound l).depth = none := rfl
attribute [local go_sem] wide_fn wide_depth wide_fn_r wide_depth_r
structure LineX where
  con : ByteArray
  fr : Nat
  un : Nat
def trimCR (c : ByteArray) : ByteArray := if 1 ≤ c.size ∧ (c.extract (c.size - 1) c.size).toList = [13] then c.extract 0 (c.size - 1) else c
def lineAt (s : ByteArray) (fr : Nat) : LineX :=
  let c := cutAt (s.extract fr s.size) 10
  ⟨trimCR c.1, fr, fr + c.1.size + (if c.2.2 then 1 else 0)⟩
def linesAt (s : ByteArray) : Nat → Nat → List LineX
  | 0, _ => []
  | k + 1, fr => if fr < s.size then lineAt s fr :: linesAt s k (lineAt s fr).un else []
def linesOf (s : ByteArray) : List LineX := linesAt s (s.size + 1) 0
def encLine (x : LineX) : Array Value := #[.agg #[.string x.con, .int .i64 (x.fr : Int), .int .i64 (x.un : Int)]]
theorem trimCR_f (c : ByteArray) (hs : c.size ≤ 1099511627776) : strings_TrimSuffix.f c ⟨#[13]⟩ = some (trimCR c) := by
  unfold strings_TrimSuffix.f stringslite_TrimSuffix.f stringslite_HasSuffix.f
  have e1 : (⟨#[13]⟩ : ByteArray).size = 1 := rfl
  have e2 : (⟨#[13]⟩ : ByteArray).toList = [13] := by rw [Lib.toList_data]
  rw [e1, e2]
  by_cases h : 1 ≤ c.size
  · have hw : wrap64 ((c.size : Int) - ((1 : Nat) : Int)) = ((c.size - 1 : Nat) : Int) := by
      rw [show ((c.size : Int) - ((1 : Nat) : Int)) = ((c.size - 1 : Nat) : Int) by omega]
      exact (i64_w _).symm.trans (IntWalk.i64_in _ (by omega))
    rw [hw]
    have q1 : (c.size : Int) ≥ ((1 : Nat) : Int) := by omega
    have q2 : (0 : Int) ≤ ((c.size - 1 : Nat) : Int) := by omega
    have q3 : ((c.size - 1 : Nat) : Int) ≤ (c.size : Int) := by omega
    simp only [if_pos q1, if_pos q2, if_pos q3, Int.toNat_natCast, Option.bind_some]
    by_cases h2 : (c.extract (c.size - 1) c.size).toList = [13]
    · have e : trimCR c = c.extract 0 (c.size - 1) := if_pos ⟨h, h2⟩
      rw [e, h2]
      rfl
    · have e : trimCR c = c := if_neg (fun h3 => h2 h3.2)
      have e3 : ((c.extract (c.size - 1) c.size).toList == [13]) = false := by simp [h2]
      rw [e, e3]
      rfl
  · have q1 : ¬ (c.size : Int) ≥ ((1 : Nat) : Int) := by omega
    have e : trimCR c = c := if_neg (fun h3 => h h3.1)
    rw [e, if_neg q1]
    rfl
theorem cutAt_size (s : ByteArray) (c : UInt8) : (cutAt s c).1.size + (if (cutAt s c).2.2 then 1 else 0) ≤ s.size ∧ (0 < s.size → 0 < (cutAt s c).1.size + (if (cutAt s c).2.2 then 1 else 0)) := by
  by_cases h : 0 ≤ Lib.indexByte s.data.toList c
  · have e : cutAt s c = (s.extract 0 (Lib.indexByte s.data.toList c).toNat, s.extract ((Lib.indexByte s.data.toList c).toNat + 1) s.size, true) := by
      unfold cutAt; simp [h]
    have hl : s.data.toList.length = s.size := rfl
    have := indexByte_lt s.data.toList c
    rw [e]
    simp
    omega
  · have e : cutAt s c = (s, ⟨#[]⟩, false) := by
      unfold cutAt; simp [h]
    rw [e]
    simp
theorem lineAt_un (s : ByteArray) (fr : Nat) (h : fr < s.size) : fr < (lineAt s fr).un ∧ (lineAt s fr).un ≤ s.size ∧ (lineAt s fr).fr = fr := by
  have hx : (s.extract fr s.size).size = s.size - fr := by simp
  obtain ⟨h1, h2⟩ := cutAt_size (s.extract fr s.size) 10
  refine ⟨?_, ?_, rfl⟩
  · have := h2 (by omega)
    unfold lineAt
    dsimp only
    omega
  · unfold lineAt
    dsimp only
    omega
set_option maxRecDepth 100000 in
set_option maxHeartbeats 2000000 in
theorem lines1_in (n : Nat) (l bs : Nat) (s : ByteArray) (hs : s.size ≤ 1099511627776) (J Jx : List LineX → World → Prop)
    (hY : ∀ pre x W, x ∈ linesOf s → J pre W → pre.length < (linesOf s).length → YieldAt Fence.wide (n - 1) Tryz.prog l (encLine x) W fun e W' =>
      (e = .returned (.bool true) ∧ J (pre ++ [x]) W' ∧ W'.heap[bs]? = W.heap[bs]?) ∨ (e = .returned (.bool false) ∧ Jx (pre ++ [x]) W'))
    (W : World) (hBs : W.heap[bs]? = some (.cells #[.string s] 9 (0, 0))) (h0 : J [] W) (hJd : ∀ pre W k, J pre W → J pre (W.drewN k)) :
    CallsIn Fence.wide n Tryz.prog 86 #[.func (.yield l) #[] #[], .pointer (some ⟨bs, 0, none⟩)] W fun e W' => (∃ v, e = .returned v) ∧
      ((∃ ys, ys = linesOf s ∧ J ys W') ∨ (∃ pre, pre <+: linesOf s ∧ Jx pre W')) := by
  refine callsIn_of_wp Tryz.func86 rfl trivial ?_ rfl
  simp only [Tryz.ntmps86, List.size_toArray, List.length_cons, List.length_nil, Nat.reduceAdd, Nat.reduceSub, Array.replicate_succ, Array.replicate_zero, List.push_toArray, List.append_toArray, List.nil_append, List.cons_append]
  gi_wp2
  gi_loopw [3] (fun i wr => ∃ (k fr : Nat) (pre : List LineX), i = .int .i64 fr ∧ fr ≤ s.size ∧ s.size + 1 ≤ fr + k ∧ linesOf s = pre ++ linesAt s k fr ∧ J pre wr ∧ wr.heap[bs]? = some (.cells #[.string s] 9 (0, 0)))
    (fun i _ => s.size - (intOf i).toNat)
  case atStart => exact ⟨s.size + 1, 0, [], rfl, by omega, by omega, rfl, h0, hBs⟩
  case round =>
    obtain ⟨k, fr, pre, rfl, hfr, hk, hls, hJs, hbs⟩ := hrel
    have hc : wr.cell? ⟨bs, 0, none⟩ = some (.string s) := by simp [World.cell?, hbs]
    by_cases hlt : fr < s.size
    · obtain ⟨k, rfl⟩ : ∃ m, k = m + 1 := ⟨k - 1, by omega⟩
      obtain ⟨hu1, hu2, hu3⟩ := lineAt_un s fr hlt
      have hls2 : linesAt s (k + 1) fr = lineAt s fr :: linesAt s k (lineAt s fr).un := by rw [linesAt, if_pos hlt]
      rw [hls2] at hls
      clear hls2
      have hlen : pre.length < (linesOf s).length := by rw [hls]; simp
      have LS := Aside0.mk hls
      clear hls
      obtain ⟨c, r, b, hcut⟩ : ∃ c r b, cutAt (s.extract fr s.size) 10 = (c, r, b) := ⟨_, _, _, rfl⟩
      have hline : lineAt s fr = ⟨trimCR c, fr, fr + c.size + (if b then 1 else 0)⟩ := by unfold lineAt; rw [hcut]
      rw [hline] at hu1 hu2
      have hx : (s.extract fr s.size).size = s.size - fr := by simp
      have hcf : strings_Cut.f (s.extract fr s.size) ⟨#[10]⟩ = some (c, r, b) := by
        unfold strings_Cut.f
        rw [if_pos ⟨by omega, rfl⟩]
        exact congrArg some hcut
      have hcs : c.size ≤ s.size := by dsimp only at hu2; omega
      have htr := trimCR_f c (by omega)
      have HCF := Aside0.mk hcf
      have HTR := Aside0.mk htr
      have HL := Aside0.mk hline
      clear hcf htr hcut hline
      have hq1 : (fr : Int) < (s.size : Int) := by omega
      have hq3 : (fr : Int) ≤ (s.size : Int) := by omega
      have hq4 : (0 : Int) ≤ (fr : Int) := by omega
      have hq2 : IntKind.i64.wrap ((fr : Int) + (c.size : Int)) = ((fr + c.size : Nat) : Int) := by rw [Int.natCast_add]; exact IntWalk.i64_in _ (by dsimp only at hu2; omega)
      cases b
      all_goals
        try simp only [Bool.false_eq_true, if_false, if_true, Nat.add_zero] at hu1 hu2 HL
        gi_wp2_with (gi_at_call 40; refine (callsIn_wide.2 (strings_Cut.calls _ _ _ _ _ _ HCF.out)).mono ?_; rintro e w' ⟨rfl, ⟨nd, rfl⟩⟩)
        refine (callsIn_wide.2 (strings_TrimSuffix.calls _ _ _ _ HTR.out)).mono ?_
        rintro e w' ⟨rfl, ⟨nd2, rfl⟩⟩
        obtain ⟨fn, tmps, assign, body, hy, hR⟩ := hY pre (lineAt s fr) (wr.drewN (nd + nd2)) (by rw [LS.out]; simp) (hJd _ _ _ hJs) hlen
        rw [HL.out] at hy
        simp only [encLine, Int.natCast_add, Int.natCast_one] at hy
        gi_wp2
        refine hR.mono ?_
        rintro e W3 (⟨rfl, hJ3, hk3⟩ | ⟨rfl, hJx3⟩)
        · gi_wp2
          go_roundw
          case rel =>
            refine ⟨k, (lineAt s fr).un, pre ++ [lineAt s fr], by rw [HL.out]; simp, by rw [HL.out]; exact hu2, by rw [HL.out]; dsimp only; omega, by rw [LS.out]; simp, hJ3, hk3.trans hbs⟩
          case measure => simp [intOf]; omega
        · gi_wp2
          refine bodyPost_ret (results_none rfl _ _ _) rfl ?_
          exact ⟨⟨_, rfl⟩, .inr ⟨_, ⟨linesAt s k (lineAt s fr).un, by rw [LS.out]; simp⟩, hJx3⟩⟩
    · obtain rfl : fr = s.size := by omega
      have e : linesAt s k s.size = [] := by cases k with | zero => rfl | succ k => rw [linesAt, if_neg (by omega)]
      rw [e, List.append_nil] at hls
      gi_wp2
      go_end0
      exact ⟨⟨_, rfl⟩, .inl ⟨_, rfl, hls ▸ hJs⟩⟩
def lineNo (s : ByteArray) (i : Nat) : LineX := (linesOf s).getD i ⟨⟨#[]⟩, 0, 0⟩
theorem lines_stops (n bs : Nat) (s : ByteArray) (hs : s.size ≤ 1099511627776) (w : World) (hb : bs < w.heap.size) (hc : w.heap[bs]? = some (.cells #[.string s] 9 (0, 0))) :
    SeqStopsK Fence.wide n Tryz.prog 86 #[.pointer (some ⟨bs, 0, none⟩)] (fun i : Nat => encLine (lineNo s i)) (fun W W' => W'.heap[bs]? = W.heap[bs]?) (fun xs => xs.map (lineNo s) = linesOf s) (fun pre => pre.map (lineNo s) <+: linesOf s) (linesOf s).length w := fun l J Jx W hW hJ hJx hY h0 => by
  refine (lines1_in n l bs s hs (fun pre W => ∃ is : List Nat, is.map (lineNo s) = pre ∧ J is W) (fun pre W => ∃ is : List Nat, is.map (lineNo s) = pre ∧ Jx is W) ?_ W ((hW.block bs hb).trans hc) ⟨[], rfl, h0⟩ ?_).mono ?_
  · rintro pre x W1 hx ⟨is, rfl, hj⟩ hl
    obtain ⟨i, hi, rfl⟩ := List.getElem_of_mem hx
    have e : lineNo s i = (linesOf s)[i] := by unfold lineNo; rw [List.getD_eq_getElem?_getD, List.getElem?_eq_getElem hi]; rfl
    rw [List.length_map] at hl
    obtain ⟨fn, tmps, assign, body, hy, hR⟩ := hY is i W1 hj hl
    dsimp only at hy
    rw [e] at hy
    refine ⟨fn, tmps, assign, body, hy, hR.mono ?_⟩
    rintro e' W' (⟨rfl, h1, h2⟩ | ⟨rfl, h1⟩)
    · exact .inl ⟨rfl, ⟨is ++ [i], by simp [e], h1⟩, h2⟩
    · exact .inr ⟨rfl, is ++ [i], by simp [e], h1⟩
  · rintro pre W1 k ⟨is, rfl, h⟩
    exact ⟨is, rfl, hJ is W1 _ none h ⟨rfl, rfl, rfl, Nat.le_refl _, fun _ _ _ => rfl⟩ (fun r e => by cases e)⟩
  · rintro e W' ⟨hv, ⟨ys, rfl, is, hi, hj⟩ | ⟨pre, hp, is, rfl, hj⟩⟩
    · exact ⟨hv, .inl ⟨is, hi, hj⟩⟩
    · exact ⟨hv, .inr ⟨is, hp, hj⟩⟩
theorem linesAt_length (s : ByteArray) : ∀ k fr, (linesAt s k fr).length ≤ k
  | 0, fr => by simp [linesAt]
  | k + 1, fr => by
    rw [linesAt]
    split
    · have := linesAt_length s k (lineAt s fr).un
      simp; omega
    · simp
theorem linesAt_con (s : ByteArray) : ∀ k fr, ∀ x ∈ linesAt s k fr, x.con.size ≤ s.size
  | 0, fr => by simp [linesAt]
  | k + 1, fr => by
    rw [linesAt]
    split
    · intro x hx
      rcases List.mem_cons.1 hx with rfl | hx
      · have h1 := cutAt_size (s.extract fr s.size) 10
        have h2 : (s.extract fr s.size).size = s.size - fr := by simp
        show (trimCR (cutAt (s.extract fr s.size) 10).1).size ≤ s.size
        have h3 : ∀ c : ByteArray, (trimCR c).size ≤ c.size := fun c => by
          unfold trimCR
          split
          · simp
          · exact Nat.le_refl _
        have := h3 (cutAt (s.extract fr s.size) 10).1
        omega
      · exact linesAt_con s k _ x hx
    · intro x hx; cases hx
theorem lineNo_con (s : ByteArray) (i : Nat) : (lineNo s i).con.size ≤ s.size := by
  unfold lineNo
  rw [List.getD_eq_getElem?_getD]
  cases h : (linesOf s)[i]? with
  | none => exact Nat.zero_le _
  | some x => exact linesAt_con s _ _ x (List.mem_of_getElem? h)
theorem lines_in (n : Nat) (s : ByteArray) (w : World) :
    CallsIn Fence.wide n Tryz.prog 60 #[.string s] w fun e w' => e = .returned (.func (.func 86) #[] #[.pointer (some ⟨w.heap.size, 0, none⟩)]) ∧ w' = w.alloc (.cells #[.string s] 9) := by
  refine callsIn_of_wp Tryz.func60 rfl trivial ?_ rfl
  simp only [Tryz.ntmps60, List.size_toArray, List.length_cons, List.length_nil, Nat.reduceAdd, Nat.reduceSub, Array.replicate_succ, Array.replicate_zero, List.push_toArray, List.append_toArray, List.nil_append, List.cons_append]
  gi_wp2
  go_ret
  exact ⟨rfl, rfl⟩
end Go.Proofs.YtieompfmhnpnaaaGreat.H
namespace Go.Proofs.YtieompfmhnpnaaaGreat.H
open Go.RowKit Go.Proofs.YtieompfmhnpnaaaGreatW.PrintWords Go.Proofs.YtieompfmhnpnaaaGreatW.PrintLast Go.Proofs.YtieompfmhnpnaaaGreatW.PrintMore
set_option linter.unusedVariables false
set_option linter.unusedSimpArgs false
attribute [local go_sem] Oper.semAt_some
attribute [local go_sem] wide_fn wide_depth wide_fn_r wide_depth_r
def piecesAt (s : ByteArray) : Nat → Nat → Bool → Nat → List ByteArray
  | 0, fr, q, i => [s.extract fr s.size]
  | k + 1, fr, q, i =>
    if i < s.size then
      (if byteAt s i = 92 ∧ q = true then piecesAt s k fr q (i + 2)
       else if byteAt s i = 34 then piecesAt s k fr (!q) (i + 1)
       else if byteAt s i = 59 ∧ q = false then s.extract fr i :: piecesAt s k (i + 1) q (i + 1)
       else piecesAt s k fr q (i + 1))
    else [s.extract fr s.size]
def piecesOf (s : ByteArray) : List ByteArray := piecesAt s (s.size + 1) 0 false 0
theorem piecesAt_end (s : ByteArray) (k fr i : Nat) (q : Bool) (h : s.size ≤ i) : piecesAt s k fr q i = [s.extract fr s.size] := by
  cases k with
  | zero => rfl
  | succ k => rw [piecesAt, if_neg (by omega)]
set_option maxRecDepth 100000 in
set_option maxHeartbeats 2000000 in
theorem pieces1_in (n : Nat) (l bs : Nat) (s : ByteArray) (hs : s.size ≤ 1099511627776) (J Jx : List ByteArray → World → Prop)
    (hY : ∀ pre x W, x ∈ piecesOf s → J pre W → pre.length < (piecesOf s).length → YieldAt Fence.wide (n - 1) Tryz.prog l #[.string x] W fun e W' =>
      (e = .returned (.bool true) ∧ J (pre ++ [x]) W' ∧ W'.heap[bs]? = W.heap[bs]?) ∨ (e = .returned (.bool false) ∧ Jx (pre ++ [x]) W'))
    (W : World) (hBs : W.heap[bs]? = some (.cells #[.string s] 9 (0, 0))) (h0 : J [] W) :
    CallsIn Fence.wide n Tryz.prog 70 #[.func (.yield l) #[] #[], .pointer (some ⟨bs, 0, none⟩)] W fun e W' => (∃ v, e = .returned v) ∧
      ((∃ ys, ys = piecesOf s ∧ J ys W') ∨ (∃ pre, pre <+: piecesOf s ∧ Jx pre W')) := by
  refine callsIn_of_wp Tryz.func70 rfl trivial ?_ rfl
  simp only [Tryz.ntmps70, List.size_toArray, List.length_cons, List.length_nil, Nat.reduceAdd, Nat.reduceSub, Array.replicate_succ, Array.replicate_zero, List.push_toArray, List.append_toArray, List.nil_append, List.cons_append]
  gi_wp2
  gi_loopw [3, 4, 5] (fun a b i wr => ∃ (k fr ix : Nat) (q : Bool) (pre : List ByteArray), a = .int .i64 fr ∧ b = .bool q ∧ i = .int .i64 ix ∧ fr ≤ ix ∧ fr ≤ s.size ∧ ix ≤ s.size + 1 ∧ s.size + 1 ≤ ix + k ∧ piecesOf s = pre ++ piecesAt s k fr q ix ∧ J pre wr ∧ wr.heap[bs]? = some (.cells #[.string s] 9 (0, 0)))
    (fun _ _ i _ => s.size + 2 - (intOf i).toNat)
  case atStart => exact ⟨s.size + 1, 0, 0, false, [], rfl, rfl, rfl, by omega, by omega, by omega, by omega, rfl, h0, hBs⟩
  case round =>
    obtain ⟨k, fr, ix, q, pre, rfl, rfl, rfl, hfi, hfr, hix, hk, hls, hJs, hbs⟩ := hrel
    have hc : wr.cell? ⟨bs, 0, none⟩ = some (.string s) := by simp [World.cell?, hbs]
    by_cases hlt : ix < s.size
    · obtain ⟨k, rfl⟩ : ∃ m, k = m + 1 := ⟨k - 1, by omega⟩
      rw [piecesAt, if_pos hlt] at hls
      have hq1 : (ix : Int) < (s.size : Int) := by omega
      have hq0 : (0 : Int) ≤ (ix : Int) := by omega
      have b256 : (byteAt s ix).toNat < 256 := (byteAt s ix).toNat_lt
      by_cases c92 : byteAt s ix = 92
      · have k0 : ∀ hh, s[ix]'hh = 92 := fun hh => (byteAt_get s ix hh).trans c92
        cases q with
        | true =>
          rw [if_pos ⟨c92, rfl⟩] at hls
          have LS := Aside0.mk hls
          clear hls c92
          gi_wp2_with fail
          go_roundw
          case rel => exact ⟨k, fr, ix + 2, true, pre, rfl, rfl, by go_num, by omega, by omega, by omega, by omega, LS.out, hJs, hbs⟩
          case measure => simp [intOf]; omega
        | false =>
          rw [if_neg (fun h => by cases h.2), if_neg (by rw [c92]; decide), if_neg (fun h => by rw [c92] at h; exact absurd h.1 (by decide))] at hls
          have LS := Aside0.mk hls
          clear hls c92
          gi_wp2_with fail
          go_roundw
          case rel => exact ⟨k, fr, ix + 1, false, pre, rfl, rfl, by go_num, by omega, by omega, by omega, by omega, LS.out, hJs, hbs⟩
          case measure => simp [intOf]; omega
      · rw [if_neg (fun h => c92 h.1)] at hls
        have n92 : ((byteAt s ix).toNat : Int) ≠ 92 := fun e => c92 (by rw [← UInt8.toNat_inj]; show _ = 92; omega)
        have d92 : (((byteAt s ix).toNat : Int) == 92) = false := by simpa using n92
        by_cases c34 : byteAt s ix = 34
        · have k0 : ∀ hh, s[ix]'hh = 34 := fun hh => (byteAt_get s ix hh).trans c34
          rw [if_pos c34] at hls
          have LS := Aside0.mk hls
          clear hls c34 c92 n92 d92
          gi_wp2_with fail
          go_roundw
          case rel => exact ⟨k, fr, ix + 1, !q, pre, rfl, rfl, by go_num, by omega, by omega, by omega, by omega, LS.out, hJs, hbs⟩
          case measure => simp [intOf]; omega
        · rw [if_neg c34] at hls
          have n34 : ((byteAt s ix).toNat : Int) ≠ 34 := fun e => c34 (by rw [← UInt8.toNat_inj]; show _ = 34; omega)
          have d34 : (((byteAt s ix).toNat : Int) == 34) = false := by simpa using n34
          by_cases c59 : byteAt s ix = 59
          · have k0 : ∀ hh, s[ix]'hh = 59 := fun hh => (byteAt_get s ix hh).trans c59
            cases q with
            | true =>
              rw [if_neg (fun h => by cases h.2)] at hls
              have LS := Aside0.mk hls
              clear hls c59 c34 c92 n92 d92 n34 d34
              gi_wp2_with fail
              go_roundw
              case rel => exact ⟨k, fr, ix + 1, true, pre, rfl, rfl, by go_num, by omega, by omega, by omega, by omega, LS.out, hJs, hbs⟩
              case measure => simp [intOf]; omega
            | false =>
              rw [if_pos ⟨c59, rfl⟩] at hls
              have LS := Aside0.mk hls
              have hmem : s.extract fr ix ∈ piecesOf s := by rw [hls]; simp
              have hlen : pre.length < (piecesOf s).length := by rw [hls]; simp
              obtain ⟨fn, tmps, assign, body, hy, hR⟩ := hY pre (s.extract fr ix) wr hmem hJs hlen
              have hsl1 : (fr : Int) ≤ (ix : Int) := by omega
              have hsl2 : (ix : Int) ≤ (s.size : Int) := by omega
              have hsl3 : (0 : Int) ≤ (fr : Int) := by omega
              clear hls c59 c34 c92 n92 d92 n34 d34 hmem hlen
              gi_wp2_with fail
              refine hR.mono ?_
              rintro e W3 (⟨rfl, hJ3, hk3⟩ | ⟨rfl, hJx3⟩)
              · gi_wp2_with fail
                go_roundw
                case rel => exact ⟨k, ix + 1, ix + 1, false, pre ++ [s.extract fr ix], by go_num, rfl, by go_num, by omega, by omega, by omega, by omega, by rw [LS.out]; simp, hJ3, hk3.trans hbs⟩
                case measure => simp [intOf]; omega
              · gi_wp2_with fail
                refine bodyPost_ret (results_none rfl _ _ _) rfl ?_
                exact ⟨⟨_, rfl⟩, .inr ⟨_, ⟨piecesAt s k (ix + 1) false (ix + 1), by rw [LS.out]; simp⟩, hJx3⟩⟩
          · rw [if_neg (fun h => c59 h.1)] at hls
            have n59 : ((byteAt s ix).toNat : Int) ≠ 59 := fun e => c59 (by rw [← UInt8.toNat_inj]; show _ = 59; omega)
            have d59 : (((byteAt s ix).toNat : Int) == 59) = false := by simpa using n59
            have k0 : ∀ hh, s[ix]'hh = byteAt s ix := fun hh => byteAt_get s ix hh
            have LS := Aside0.mk hls
            clear hls c59 c34 c92
            gi_wp2_with fail
            go_roundw
            case rel => exact ⟨k, fr, ix + 1, q, pre, rfl, rfl, by go_num, by omega, by omega, by omega, by omega, LS.out, hJs, hbs⟩
            case measure => simp [intOf]; omega
    · rw [piecesAt_end s k fr ix q (by omega)] at hls
      have LS := Aside0.mk hls
      have hmem : s.extract fr s.size ∈ piecesOf s := by rw [hls]; simp
      have hlen : pre.length < (piecesOf s).length := by rw [hls]; simp
      obtain ⟨fn, tmps, assign, body, hy, hR⟩ := hY pre (s.extract fr s.size) wr hmem hJs hlen
      have hsl2 : (fr : Int) ≤ (s.size : Int) := by omega
      have hsl3 : (0 : Int) ≤ (fr : Int) := by omega
      have hq1 : ¬ (ix : Int) < (s.size : Int) := by omega
      clear hls hmem hlen
      gi_wp2_with fail
      refine hR.mono ?_
      rintro e W3 (⟨rfl, hJ3, hk3⟩ | ⟨rfl, hJx3⟩)
      · gi_wp2_with fail
        go_end0
        exact ⟨⟨_, rfl⟩, .inl ⟨_, rfl, by rw [LS.out]; exact hJ3⟩⟩
      · gi_wp2_with fail
        go_end0
        exact ⟨⟨_, rfl⟩, .inr ⟨_, ⟨[], by rw [LS.out]; simp⟩, hJx3⟩⟩
end Go.Proofs.YtieompfmhnpnaaaGreat.H
end
section
namespace Go.Proofs.YtieompfmhnpnaaaGreat.H
open Go.RowKit Go.Proofs.YtieompfmhnpnaaaGreatW.PrintWords Go.Proofs.YtieompfmhnpnaaaGreatW.PrintLast Go.Proofs.YtieompfmhnpnaaaGreatW.PrintMore
set_option linter.unusedVariables false
set_option linter.unusedSimpArgs false
def unqL : List UInt8 → List UInt8 → List UInt8 × Bool
  | [], _ => ([], false)
  | [c], acc => if c = 34 then (acc, true) else ([], false)
  | c :: d :: r, acc => if c = 34 then ([], false) else if c = 92 then unqL r (acc ++ [d]) else unqL (d :: r) (acc ++ [c])
def unqB (p : List UInt8 × Bool) : ByteArray × Bool := (mkB p.1, p.2)
theorem unq_l0 (s : ByteArray) (hs : s.size ≤ 1099511627776) : ∀ (n i : Nat) (acc : List UInt8), i + n = s.size → acc.length ≤ i →
    Ev (fun k => header_unquoted.l0 k s (ints acc) (i : Int)) (unqB (unqL ((bl s).drop i) acc))
  | 0, i, acc, hi, ha => by
    have hl := bl_length s
    refine Ev.step (fun k => by simp only [header_unquoted.l0]; rfl) ?_
    refine ev_no (by omega) ?_
    exact ev_done (by rw [List.drop_of_length_le (by omega)]; rfl)
  | 1, i, acc, hi, ha => by
    have hl := bl_length s
    refine Ev.step (fun k => by simp only [header_unquoted.l0]; rfl) ?_
    have hb := bt_byteAt s i (by omega)
    rw [drop_byteAt s i (by omega), List.drop_of_length_le (by omega)]
    refine ev_yes (by omega) ?_
    refine ev_yes (by omega) ?_
    simp only [hb, wrap_up i (by omega)]
    by_cases c34 : byteAt s i = 34
    · refine ev_yes (by rw [c34]; rfl) ?_
      refine ev_no (by omega) ?_
      refine ev_done ?_
      unfold unqL
      rw [if_pos c34, ints_back]
      rfl
    · have n34 : ¬ ((byteAt s i).toNat : Int) = 34 := fun e => c34 (by rw [← UInt8.toNat_inj]; show _ = 34; omega)
      refine ev_no n34 ?_
      have e1 : unqB (unqL [byteAt s i] acc) = ((⟨#[]⟩ : ByteArray), false) := by unfold unqL; rw [if_neg c34]; rfl
      rw [e1]
      by_cases c92 : byteAt s i = 92
      · refine ev_yes (by rw [c92]; rfl) ?_
        refine ev_yes (by omega) ?_
        exact Ev.now _
      · have n92 : ¬ ((byteAt s i).toNat : Int) = 92 := fun e => c92 (by rw [← UInt8.toNat_inj]; show _ = 92; omega)
        refine ev_no n92 ?_
        refine ev_yes (by rw [ints_length]; omega) ?_
        have := unq_l0 s hs 0 (i + 1) (acc ++ [byteAt s i]) (by omega) (by simp; omega)
        rw [List.drop_of_length_le (by omega), ints_append] at this
        exact this
  | n + 2, i, acc, hi, ha => by
    have hl := bl_length s
    refine Ev.step (fun k => by simp only [header_unquoted.l0]; rfl) ?_
    have hb := bt_byteAt s i (by omega)
    have hb1 := bt_byteAt s (i + 1) (by omega)
    rw [drop_byteAt s i (by omega), drop_byteAt s (i + 1) (by omega)]
    refine ev_yes (by omega) ?_
    refine ev_yes (by omega) ?_
    simp only [hb, wrap_up i (by omega), hb1, wrap_up (i + 1) (by omega)]
    by_cases c34 : byteAt s i = 34
    · refine ev_yes (by rw [c34]; rfl) ?_
      refine ev_yes (by omega) ?_
      refine ev_done ?_
      unfold unqL
      rw [if_pos c34]
      rfl
    · have n34 : ¬ ((byteAt s i).toNat : Int) = 34 := fun e => c34 (by rw [← UInt8.toNat_inj]; show _ = 34; omega)
      refine ev_no n34 ?_
      by_cases c92 : byteAt s i = 92
      · refine ev_yes (by rw [c92]; rfl) ?_
        refine ev_no (by omega) ?_
        refine ev_yes (by omega) ?_
        refine ev_yes (by omega) ?_
        refine ev_yes (by rw [ints_length]; omega) ?_
        have e1 : unqL (byteAt s i :: byteAt s (i + 1) :: (bl s).drop (i + 1 + 1)) acc = unqL ((bl s).drop (i + 1 + 1)) (acc ++ [byteAt s (i + 1)]) := by
          rw [unqL, if_neg c34, if_pos c92]
        rw [e1]
        have := unq_l0 s hs n (i + 1 + 1) (acc ++ [byteAt s (i + 1)]) (by omega) (by simp; omega)
        rw [ints_append] at this
        exact this
      · have n92 : ¬ ((byteAt s i).toNat : Int) = 92 := fun e => c92 (by rw [← UInt8.toNat_inj]; show _ = 92; omega)
        refine ev_no n92 ?_
        refine ev_yes (by rw [ints_length]; omega) ?_
        have e1 : unqL (byteAt s i :: byteAt s (i + 1) :: (bl s).drop (i + 1 + 1)) acc = unqL ((bl s).drop (i + 1)) (acc ++ [byteAt s i]) := by
          rw [unqL, if_neg c34, if_neg c92, ← drop_byteAt s (i + 1) (by omega)]
        rw [e1]
        have := unq_l0 s hs (n + 1) (i + 1) (acc ++ [byteAt s i]) (by omega) (by simp; omega)
        rw [ints_append] at this
        exact this
def valueS (s : ByteArray) : ByteArray × Bool :=
  if (bl s).head? = some 34 then unqB (unqL ((bl s).drop 1) [])
  else if (bl s).all (fun c => visB c && c != 34) then (s, !(bl s).isEmpty) else ((⟨#[]⟩ : ByteArray), false)
theorem pval_l0 (s : ByteArray) (hs : s.size ≤ 1099511627776) : ∀ (n i : Nat), i + n = s.size →
    Ev (fun k => header_paramValue.l0 k s (s.size : Int) (i : Int)) (if ((bl s).drop i).all (fun c => visB c && c != 34) then (s, !(bl s).isEmpty) else ((⟨#[]⟩ : ByteArray), false))
  | 0, i, hi => by
    have hl := bl_length s
    refine Ev.step (fun k => by simp only [header_paramValue.l0]; rfl) ?_
    refine ev_no (by omega) ?_
    refine ev_done ?_
    rw [List.drop_of_length_le (by omega), toList_bl]
    cases h : bl s <;> rfl
  | n + 1, i, hi => by
    refine Ev.step (fun k => by simp only [header_paramValue.l0]; rfl) ?_
    have hb := bt_byteAt s i (by omega)
    refine ev_yes (by omega) ?_
    refine ev_yes (by omega) ?_
    refine ev_yes (by omega) ?_
    simp only [hb, visible_at, Option.bind_some]
    rw [drop_byteAt s i (by omega), List.all_cons]
    by_cases hv : visB (byteAt s i) = true
    · simp only [hv, if_true, Bool.true_and]
      by_cases c34 : byteAt s i = 34
      · have h2 : (byteAt s i != 34) = false := by rw [c34]; rfl
        rw [h2]
        refine ev_yes (by rw [c34]; rfl) ?_
        simp only [Bool.false_and]
        exact Ev.now _
      · have n34 : ¬ ((byteAt s i).toNat : Int) = 34 := fun e => c34 (by rw [← UInt8.toNat_inj]; show _ = 34; omega)
        have h2 : (byteAt s i != 34) = true := by simpa using c34
        rw [h2]
        refine ev_no n34 ?_
        simp only [Bool.true_and]
        rw [wrap_up i (by omega)]
        exact pval_l0 s hs n (i + 1) (by omega)
    · have hv' : visB (byteAt s i) = false := by simpa using hv
      simp only [hv', Bool.false_and]
      exact Ev.now _
theorem prefix_34 (s : ByteArray) (hs : s.size ≤ 1099511627776) : strings_HasPrefix.f s (⟨#[34]⟩ : ByteArray) = some (decide ((bl s).head? = some 34)) := by
  unfold strings_HasPrefix.f stringslite_HasPrefix.f
  have e1 : (⟨#[34]⟩ : ByteArray).size = 1 := rfl
  have e2 : (⟨#[34]⟩ : ByteArray).toList = [34] := by rw [toList_bl]
  rw [e1, e2]
  have hl := bl_length s
  by_cases h : 1 ≤ s.size
  · have q1 : (s.size : Int) ≥ ((1 : Nat) : Int) := by omega
    have q2 : (0 : Int) ≤ ((1 : Nat) : Int) := by omega
    have q3 : ((1 : Nat) : Int) ≤ (s.size : Int) := by omega
    simp only [if_pos q1, if_pos q2, if_pos q3, Int.toNat_natCast, Option.bind_some]
    congr 1
    rw [toList_bl, bl_extract]
    have hd := drop_byteAt s 0 (by omega)
    rw [List.drop_zero] at hd
    rw [hd]
    simp
    rw [Bool.eq_iff_iff]
    simp
  · have q1 : ¬ (s.size : Int) ≥ ((1 : Nat) : Int) := by omega
    simp only [if_neg q1]
    have : bl s = [] := List.eq_nil_of_length_eq_zero (by omega)
    rw [this]
    rfl
theorem value_ev (s : ByteArray) (hs : s.size ≤ 1099511627776) : Ev (fun k => header_paramValue.f k s) (valueS s) := by
  unfold header_paramValue.f valueS
  simp only [prefix_34 s hs, Option.bind_some]
  by_cases h : (bl s).head? = some 34
  · simp only [h, decide_true, if_true]
    have hl : 1 ≤ s.size := by
      rw [← bl_length]
      cases hb : bl s with
      | nil => rw [hb] at h; cases h
      | cons _ _ => simp
    have := unq_l0 s hs (s.size - 1) 1 [] (by omega) (by simp)
    have h2 : Ev (fun k => header_unquoted.f k s) (unqB (unqL ((bl s).drop 1) [])) := by
      unfold header_unquoted.f
      exact this
    exact Ev.bind h2 (ev_done rfl)
  · simp only [h, decide_false, Bool.false_eq_true, if_false]
    have := pval_l0 s hs s.size 0 (by omega)
    simpa using this
end Go.Proofs.YtieompfmhnpnaaaGreat.H
end
section
namespace Go.Proofs.YtieompfmhnpnaaaGreat.H
open Go.RowKit Go.Proofs.YtieompfmhnpnaaaGreatW.PrintWords Go.Proofs.YtieompfmhnpnaaaGreatW.PrintLast Go.Proofs.YtieompfmhnpnaaaGreatW.PrintMore
set_option linter.unusedVariables false
set_option linter.unusedSimpArgs false
structure PS where
  fs : List S35
  vs : List ByteArray
  en : Nat
def doneF (fs : List S35) (vs : List ByteArray) : List S35 :=
  match fs.getLast? with
  | none => []
  | some f => fs.dropLast ++ [⟨f.f0, joinS vs⟩]
theorem doneF_snoc (fs : List S35) (f : S35) (vs : List ByteArray) : doneF (fs ++ [f]) vs = fs ++ [⟨f.f0, joinS vs⟩] := by simp [doneF]
theorem doneF_length (fs : List S35) (vs : List ByteArray) : (doneF fs vs).length = fs.length := by
  rcases List.eq_nil_or_concat fs with rfl | ⟨gs, g, rfl⟩
  · rfl
  · rw [List.concat_eq_append, doneF_snoc]; simp
def stepP (st : PS) (x : LineX) : PS × Bool :=
  if x.con.size = 0 then (⟨st.fs, st.vs, x.un⟩, false)
  else if blankB (byteAt x.con 0) = true ∧ 0 < st.fs.length then (⟨st.fs, addV st.vs x.con, x.un⟩, true)
  else if (cutAt x.con 58).2.2 = false ∨ isNameB (cutAt x.con 58).1 = false ∨ 400 ≤ st.fs.length then (st, false)
  else (⟨doneF st.fs st.vs ++ [⟨(cutAt x.con 58).1, ⟨#[]⟩⟩], addV [] (cutAt x.con 58).2.1, x.un⟩, true)
def goP (st : PS) : List LineX → Option PS
  | [] => some st
  | x :: xs => if (stepP st x).2 then goP (stepP st x).1 xs else none
def foldP (st : PS) : List LineX → PS
  | [] => st
  | x :: xs => if (stepP st x).2 then foldP (stepP st x).1 xs else (stepP st x).1
theorem goP_snoc (st : PS) (xs : List LineX) (x : LineX) : goP st (xs ++ [x]) = (goP st xs).bind fun s => if (stepP s x).2 then some (stepP s x).1 else none := by
  induction xs generalizing st with
  | nil => simp [goP]
  | cons y ys ih =>
    show (if (stepP st y).2 then goP (stepP st y).1 (ys ++ [x]) else none) = ((if (stepP st y).2 then goP (stepP st y).1 ys else none).bind _)
    split
    · exact ih _
    · rfl
theorem foldP_of_goP {st st' : PS} {xs : List LineX} (h : goP st xs = some st') : foldP st xs = st' := by
  induction xs generalizing st with
  | nil => exact Option.some.inj h
  | cons y ys ih =>
    unfold goP at h
    unfold foldP
    split at h
    · rename_i h1
      rw [if_pos h1]
      exact ih h
    · cases h
theorem foldP_stop {st st' : PS} {xs rest : List LineX} {x : LineX} (h : goP st xs = some st') (hx : (stepP st' x).2 = false) : foldP st (xs ++ [x] ++ rest) = (stepP st' x).1 := by
  induction xs generalizing st with
  | nil =>
    obtain rfl := Option.some.inj h
    simp [foldP, hx]
  | cons y ys ih =>
    unfold goP at h
    show (if (stepP st y).2 then foldP (stepP st y).1 (ys ++ [x] ++ rest) else _) = _
    split at h
    · rename_i h1
      rw [if_pos h1]
      exact ih h
    · cases h
def parseS (s : ByteArray) : List S35 × Nat :=
  let st := foldP ⟨[], [], 0⟩ (linesOf s)
  (doneF st.fs st.vs, st.en)
def BdP (M k : Nat) (st : PS) : Prop := st.vs.length ≤ k ∧ (∀ v ∈ st.vs, v.size ≤ M) ∧ st.fs.length ≤ 400
theorem cutAt_two (s : ByteArray) (c : UInt8) : (cutAt s c).1.size ≤ s.size ∧ (cutAt s c).2.1.size ≤ s.size := by
  refine ⟨by have := (cutAt_size s c).1; omega, ?_⟩
  by_cases h : 0 ≤ Lib.indexByte s.data.toList c
  · have e : cutAt s c = (s.extract 0 (Lib.indexByte s.data.toList c).toNat, s.extract ((Lib.indexByte s.data.toList c).toNat + 1) s.size, true) := by
      unfold cutAt; simp [h]
    rw [e]
    simp
  · have e : cutAt s c = (s, ⟨#[]⟩, false) := by
      unfold cutAt; simp [h]
    rw [e]
    exact Nat.zero_le _
theorem addV_bd {M k : Nat} {vs : List ByteArray} {s : ByteArray} (h1 : vs.length ≤ k) (h2 : ∀ v ∈ vs, v.size ≤ M) (hs : s.size ≤ M) : (addV vs s).length ≤ k + 1 ∧ ∀ v ∈ addV vs s, v.size ≤ M := by
  unfold addV
  split
  · exact ⟨by omega, h2⟩
  · refine ⟨by simp; omega, fun v hv => ?_⟩
    rcases List.mem_append.1 hv with hv | hv
    · exact h2 v hv
    · obtain rfl : v = trimS s := by simpa using hv
      exact Nat.le_trans (trim_size s) hs
theorem stepP_bd {M k : Nat} {st : PS} {x : LineX} (h : BdP M k st) (hx : x.con.size ≤ M) : BdP M (k + 1) (stepP st x).1 := by
  obtain ⟨h1, h2, h3⟩ := h
  unfold stepP
  split
  · exact ⟨by simp; omega, h2, h3⟩
  · split
    · have := addV_bd h1 h2 hx
      exact ⟨this.1, this.2, h3⟩
    · split
      · exact ⟨by simp; omega, h2, h3⟩
      · rename_i h4
        have h5 : (cutAt x.con 58).2.1.size ≤ M := Nat.le_trans (cutAt_two _ _).2 hx
        have := addV_bd (M := M) (k := k) (vs := []) (s := (cutAt x.con 58).2.1) (Nat.zero_le _) (fun v hv => by cases hv) h5
        refine ⟨this.1, this.2, ?_⟩
        have h6 : ¬ 400 ≤ st.fs.length := fun h => h4 (.inr (.inr h))
        simp [doneF_length]
        omega
theorem goP_bd {M : Nat} {xs : List LineX} (hx : ∀ x ∈ xs, x.con.size ≤ M) {k : Nat} {st st' : PS} (h : BdP M k st) (hg : goP st xs = some st') : BdP M (k + xs.length) st' := by
  induction xs generalizing st k with
  | nil => obtain rfl := Option.some.inj hg; exact h
  | cons y ys ih =>
    unfold goP at hg
    split at hg
    · have := ih (fun x hx' => hx x (List.mem_cons_of_mem _ hx')) (stepP_bd h (hx y List.mem_cons_self)) hg
      have e : k + (y :: ys).length = k + 1 + ys.length := by simp; omega
      rw [e]
      exact this
    · cases hg
theorem joinS_size {M : Nat} {vs : List ByteArray} (h : ∀ v ∈ vs, v.size ≤ M) : (joinS vs).size ≤ vs.length * (M + 1) := by
  unfold joinS
  rw [mkB_size]
  induction vs with
  | nil => exact Nat.zero_le _
  | cons v vs ih =>
    have h1 := ih (fun u hu => h u (List.mem_cons_of_mem _ hu))
    have h2 := h v List.mem_cons_self
    rw [← bl_length] at h2
    have e : (v :: vs).length * (M + 1) = vs.length * (M + 1) + (M + 1) := by rw [List.length_cons, Nat.succ_mul]
    rw [e]
    cases vs with
    | nil => simp only [List.map_cons, List.map_nil, Lib.join]; simp at h2 ⊢; omega
    | cons u us =>
      simp only [List.map_cons, Lib.join, List.length_append] at h1 ⊢
      simp at h1 h2 ⊢
      omega
def Ex (n0 : Nat) (W : World) (i : Nat) : Prop := n0 ≤ i ∧ ∃ cells t, W.heap[i]? = some (.cells cells t (0, 0)) ∧ t ≠ 81
def Stp (n0 : Nat) (W W' : World) : Prop := FrameX (Ex n0 W) W W'
theorem Stp.refl (n0 : Nat) (W : World) : Stp n0 W W := FrameX.refl _ _
theorem Stp.trans {n0 : Nat} {A B C : World} (h : Stp n0 A B) (k : Stp n0 B C) : Stp n0 A C :=
  ⟨k.os.trans h.os, k.tape.trans h.tape, k.output.trans h.output, Nat.le_trans h.size k.size, fun i hi he => by
    have e1 := h.block i hi he
    exact (k.block i (Nat.lt_of_lt_of_le hi h.size) (fun ⟨h1, c, t, h2, h3⟩ => he ⟨h1, c, t, e1 ▸ h2, h3⟩)).trans e1⟩
theorem Stp.keeps {n0 : Nat} {W W' : World} (h : Stp n0 W W') (B : Nat) : KeepsFrom B W W' :=
  ⟨h.size, fun k o _ hk ho => (h.block k (Array.getElem?_eq_some_iff.1 hk).1 (fun ⟨_, c, t, h2, _⟩ => by rw [h2] at hk; cases hk; cases ho)).trans hk⟩
theorem Stp.below {n0 : Nat} {W W' : World} (h : Stp n0 W W') (hn : n0 ≤ W.heap.size) : Below n0 W W' :=
  ⟨h.os, h.tape, h.output, h.size, fun i hi => h.block i (Nat.lt_of_lt_of_le hi hn) (fun ⟨h1, _⟩ => by omega)⟩
theorem Stp.lv {n0 : Nat} {W W' : World} (h : Stp n0 W W') {B : Nat} {c : Array Value} (hv : W.heap[B]? = some (.cells c 81 (0, 0))) : W'.heap[B]? = some (.cells c 81 (0, 0)) :=
  (h.block B (Array.getElem?_eq_some_iff.1 hv).1 (fun ⟨_, c', t, h2, h3⟩ => by rw [hv] at h2; injection h2 with h2; injection h2 with _ h2 _; exact h3 h2.symm)).trans hv
theorem Stp.setCell {n0 : Nat} {A W : World} (h : Stp n0 A W) {b : Nat} {c : Array Value} {t : TypeId} (hb : n0 ≤ b) (hc : W.heap[b]? = some (.cells c t (0, 0))) (ht : t ≠ 81) (j : Nat) (v : Value) : Stp n0 A (W.setCell ⟨b, j, none⟩ v) :=
  h.trans ((FrameX.refl _ W).setCell ⟨b, j, none⟩ ⟨hb, c, t, hc, ht⟩ v)
def FIN (b0 b1 : Nat) : Value := .func (.func 57) #[] #[.pointer (some ⟨b0, 0, none⟩), .pointer (some ⟨b1, 0, none⟩)]
def ADD (b1 : Nat) : Value := .func (.func 59) #[] #[.pointer (some ⟨b1, 0, none⟩)]
structure PSt (n0 b0 b1 b2 b3 b4 bs : Nat) (raw : ByteArray) (st : PS) (vF vV : Value) (W : World) : Prop where
  c0 : W.heap[b0]? = some (.cells #[vF] 33 (0, 0))
  c1 : W.heap[b1]? = some (.cells #[vV] 42 (0, 0))
  c2 : W.heap[b2]? = some (.cells #[FIN b0 b1] 1 (0, 0))
  c3 : W.heap[b3]? = some (.cells #[ADD b1] 76 (0, 0))
  c4 : W.heap[b4]? = some (.cells #[.int .i64 (st.en : Int)] 3 (0, 0))
  cs : W.heap[bs]? = some (.cells #[.string raw] 9 (0, 0))
  oF : W.ownsRow n0 35 2 vF st.fs.length (fieldVals st.fs)
  oV : W.ownsRow n0 9 1 vV st.vs.length (strVals st.vs)
  ne : vV.ownBlock ≠ some bs
section
variable {n0 b0 b1 b2 b3 b4 bs : Nat} {raw : ByteArray} {st : PS} {vF vV : Value} {W : World}
theorem pst_own (X Y : World) (row : Option Nat) (h : PSt n0 b0 b1 b2 b3 b4 bs raw st vF vV X) (hg : X.grownBy Y row) (hr : ∀ r, row = some r → ∃ o : Obj, X.heap[r]? = some o ∧ o.isCells = false) : PSt n0 b0 b1 b2 b3 b4 bs raw st vF vV Y := by
  have k : ∀ {b : Nat} {c : Array Value} {t : TypeId}, X.heap[b]? = some (.cells c t (0, 0)) → Y.heap[b]? = some (.cells c t (0, 0)) := fun {b c t} hb =>
    (grownBy_keeps_cells hg hr hb rfl).trans hb
  have ko : ∀ {e : TypeId} {size n : Nat} {v : Value} {xs : List Value}, X.ownsRow n0 e size v n xs → Y.ownsRow n0 e size v n xs := fun {e size n v xs} ho => by
    refine ho.kept hg ?_
    cases hv : v.ownBlock with
    | none => exact .inl rfl
    | some g =>
      refine .inr (fun e' => ?_)
      obtain ⟨cells, hc⟩ := own_typed ho g hv
      obtain ⟨o, h1, h2⟩ := hr g e'.symm
      rw [hc] at h1
      cases h1
      cases h2
  exact ⟨k h.c0, k h.c1, k h.c2, k h.c3, k h.c4, k h.cs, ko h.oF, ko h.oV, h.ne⟩
theorem own_not {e t : TypeId} {size n b : Nat} {v : Value} {xs : List Value} {c : Array Value} (h : W.ownsRow n0 e size v n xs) (hb : W.heap[b]? = some (.cells c t (0, 0))) (ht : t ≠ e) : v.ownBlock ≠ some b := fun e2 => by
  obtain ⟨cells, hcc⟩ := own_typed h b e2
  rw [hb] at hcc
  injection hcc with hcc
  injection hcc with _ h2 _
  exact ht h2
theorem own_ex {e : TypeId} {size n : Nat} {v : Value} {xs : List Value} (h : W.ownsRow n0 e size v n xs) (he : e ≠ 81) {i : Nat} (hi : some i = v.ownBlock) : Ex n0 W i := by
  obtain ⟨cells, hcc⟩ := own_typed h i hi.symm
  exact ⟨own_base h i hi.symm, cells, e, hcc, he⟩
theorem pst_drewN (h : PSt n0 b0 b1 b2 b3 b4 bs raw st vF vV W) (k : Nat) : PSt n0 b0 b1 b2 b3 b4 bs raw st vF vV (W.drewN k) := pst_own W _ none h ⟨rfl, rfl, rfl, Nat.le_refl _, fun _ _ _ => rfl⟩ (fun r e => by cases e)
theorem Stp.drewN {n0 : Nat} {A W : World} (h : Stp n0 A W) (k : Nat) : Stp n0 A (W.drewN k) := FrameX.drewN h k
theorem add_ps (h : PSt n0 b0 b1 b2 b3 b4 bs raw st vF vV W) (hb1 : n0 ≤ b1) (s : ByteArray) (hs : s.size ≤ 1099511627776) (hlen : st.vs.length ≤ 1099511627776) (hn : n0 ≤ W.heap.size) :
    Calls Tryz.prog 59 #[.string s, .pointer (some ⟨b1, 0, none⟩)] W fun e w' => e = .returned (.tuple #[]) ∧ (∃ vV', PSt n0 b0 b1 b2 b3 b4 bs raw ⟨st.fs, addV st.vs s, st.en⟩ vF vV' w') ∧ Stp n0 W w' := by
  refine (add_calls n0 b1 vV st.vs s W hb1 h.c1 h.oV hlen hs hn).mono ?_
  rintro e w' ⟨rfl, vV', k1, k2, k3, k4⟩
  refine ⟨rfl, ⟨vV', ?_⟩, k4.imp ?_⟩
  · have kb : ∀ {b : Nat} {c : Array Value} {t : TypeId}, W.heap[b]? = some (.cells c t (0, 0)) → b ≠ b1 → some b ≠ vV.ownBlock → w'.heap[b]? = some (.cells c t (0, 0)) := fun {b c t} hb h1 h2 =>
      (k4.block b (Array.getElem?_eq_some_iff.1 hb).1 (fun h3 => h3.elim h1 h2)).trans hb
    have d1 : ∀ {b : Nat} {c : Array Value} {t : TypeId}, W.heap[b]? = some (.cells c t (0, 0)) → t ≠ 42 → b ≠ b1 := fun {b c t} hb ht e => by
      subst e
      rw [h.c1] at hb
      injection hb with hb
      injection hb with _ h2 _
      exact ht h2.symm
    refine ⟨kb h.c0 (d1 h.c0 (by decide)) (Ne.symm (own_not h.oV h.c0 (by decide))), k1, kb h.c2 (d1 h.c2 (by decide)) (Ne.symm (own_not h.oV h.c2 (by decide))), kb h.c3 (d1 h.c3 (by decide)) (Ne.symm (own_not h.oV h.c3 (by decide))),
      kb h.c4 (d1 h.c4 (by decide)) (Ne.symm (own_not h.oV h.c4 (by decide))), kb h.cs (d1 h.cs (by decide)) (Ne.symm h.ne), ?_, k2, ?_⟩
    · refine own_move h.oF (fun g hg => ?_)
      obtain ⟨cells, hcc⟩ := own_typed h.oF g hg
      exact (kb hcc (d1 hcc (by decide)) (Ne.symm (own_not h.oV hcc (by decide)))).trans hcc.symm
    · rcases k3 with k3 | ⟨b, k3, k5⟩
      · rw [k3]; exact h.ne
      · rw [k3]
        intro e
        injection e with e
        have := (Array.getElem?_eq_some_iff.1 h.cs).1
        omega
  · rintro i hi (rfl | h2)
    · exact ⟨hb1, _, _, h.c1, by decide⟩
    · exact own_ex h.oV (by decide) h2
theorem fin_ps (h : PSt n0 b0 b1 b2 b3 b4 bs raw st vF vV W) (hb0 : n0 ≤ b0) (hb1 : n0 ≤ b1) (hfl : st.fs.length ≤ 1099511627776) (hlen : st.vs.length ≤ 1099511627776) (hj : (joinS st.vs).size ≤ 140737488355328) (hn : n0 ≤ W.heap.size) :
    Calls Tryz.prog 57 #[.pointer (some ⟨b0, 0, none⟩), .pointer (some ⟨b1, 0, none⟩)] W fun e w' => e = .returned (.tuple #[]) ∧ PSt n0 b0 b1 b2 b3 b4 bs raw ⟨doneF st.fs st.vs, [], st.en⟩ vF (.slice none 0 0) w' ∧ Stp n0 W w' := by
  have main : ∀ w', w'.heap[b0]? = some (.cells #[vF] 33 (0, 0)) → w'.heap[b1]? = some (.cells #[.slice none 0 0] 42 (0, 0)) → w'.ownsRow n0 35 2 vF (doneF st.fs st.vs).length (fieldVals (doneF st.fs st.vs)) → FrameX (fun i => i = b1 ∨ some i = vF.ownBlock) W w' →
      PSt n0 b0 b1 b2 b3 b4 bs raw ⟨doneF st.fs st.vs, [], st.en⟩ vF (.slice none 0 0) w' ∧ Stp n0 W w' := by
    intro w' k0 k1 k2 k4
    refine ⟨?_, k4.imp ?_⟩
    · have kb : ∀ {b : Nat} {c : Array Value} {t : TypeId}, W.heap[b]? = some (.cells c t (0, 0)) → b ≠ b1 → some b ≠ vF.ownBlock → w'.heap[b]? = some (.cells c t (0, 0)) := fun {b c t} hb h1 h2 =>
        (k4.block b (Array.getElem?_eq_some_iff.1 hb).1 (fun h3 => h3.elim h1 h2)).trans hb
      have d1 : ∀ {b : Nat} {c : Array Value} {t : TypeId}, W.heap[b]? = some (.cells c t (0, 0)) → t ≠ 42 → b ≠ b1 := fun {b c t} hb ht e => by
        subst e
        rw [h.c1] at hb
        injection hb with hb
        injection hb with _ h2 _
        exact ht h2.symm
      exact ⟨k0, k1, kb h.c2 (d1 h.c2 (by decide)) (Ne.symm (own_not h.oF h.c2 (by decide))), kb h.c3 (d1 h.c3 (by decide)) (Ne.symm (own_not h.oF h.c3 (by decide))),
        kb h.c4 (d1 h.c4 (by decide)) (Ne.symm (own_not h.oF h.c4 (by decide))), kb h.cs (d1 h.cs (by decide)) (Ne.symm (own_not h.oF h.cs (by decide))), k2, own_nil _ _ _ _, by simp [Value.ownBlock]⟩
    · rintro i hi (rfl | h2)
      · exact ⟨hb1, _, _, h.c1, by decide⟩
      · exact own_ex h.oF (by decide) h2
  have hoF := h.oF
  rcases List.eq_nil_or_concat st.fs with e | ⟨gs, g, e⟩
  · rw [e] at hoF
    refine (finish_none n0 b0 b1 vF vV W h.c0 h.c1 hoF).mono ?_
    rintro e' w' ⟨rfl, k0, k1, k2, k4⟩
    exact ⟨rfl, main w' k0 k1 (by rw [e]; exact k2) k4⟩
  · rw [List.concat_eq_append] at e
    rw [e, List.length_append] at hoF hfl
    refine (finish_calls n0 b0 b1 vF vV gs g st.vs W hb0 hb1 h.c0 h.c1 hoF h.oV hlen (by simp at hfl; omega) hj hn).mono ?_
    rintro e' w' ⟨rfl, k0, k1, k2, k4⟩
    exact ⟨rfl, main w' k0 k1 (by rw [e, doneF_snoc, List.length_append]; exact k2) k4⟩
theorem ty_ne {b b' : Nat} {c c' : Array Value} {t t' : TypeId} (h : W.heap[b]? = some (.cells c t (0, 0))) (h' : W.heap[b']? = some (.cells c' t' (0, 0))) (ht : t ≠ t') : b ≠ b' := fun e => by
  subst e
  rw [h] at h'
  injection h' with h'
  injection h' with _ h2 _
  exact ht h2
theorem en_ps (h : PSt n0 b0 b1 b2 b3 b4 bs raw st vF vV W) (hb4 : n0 ≤ b4) (un : Nat) :
    PSt n0 b0 b1 b2 b3 b4 bs raw ⟨st.fs, st.vs, un⟩ vF vV (W.setCell ⟨b4, 0, none⟩ (.int .i64 (un : Int))) ∧ Stp n0 W (W.setCell ⟨b4, 0, none⟩ (.int .i64 (un : Int))) := by
  refine ⟨⟨blk_far h.c0 (ty_ne h.c0 h.c4 (by decide)) _, blk_far h.c1 (ty_ne h.c1 h.c4 (by decide)) _, blk_far h.c2 (ty_ne h.c2 h.c4 (by decide)) _, blk_far h.c3 (ty_ne h.c3 h.c4 (by decide)) _, ?_, blk_far h.cs (ty_ne h.cs h.c4 (by decide)) _,
    h.oF.kept (grownBy_setCell' W b4 _) (.inr (own_not h.oF h.c4 (by decide))), h.oV.kept (grownBy_setCell' W b4 _) (.inr (own_not h.oV h.c4 (by decide))), h.ne⟩, (Stp.refl n0 W).setCell hb4 h.c4 (by decide) _ _⟩
  have := blk_set h.c4 0 (.int .i64 (un : Int))
  simpa using this
theorem app_ps (h : PSt n0 b0 b1 b2 b3 b4 bs raw st vF vV W) (hb0 : n0 ≤ b0) (hn : n0 ≤ W.heap.size) {o : Obj} {w2 : World} {v' : Value} {nm : ByteArray}
    (hown' : w2.ownsRow n0 35 2 v' (st.fs.length + 1) (fieldVals st.fs ++ [.string nm, .string ⟨#[]⟩])) (hg : (W.alloc o).grownBy w2 vF.ownBlock) :
    w2.cell? ⟨b0, 0, none⟩ = some vF ∧ w2.frozen? ⟨b0, 0, none⟩ = false ∧ PSt n0 b0 b1 b2 b3 b4 bs raw ⟨st.fs ++ [⟨nm, ⟨#[]⟩⟩], st.vs, st.en⟩ v' vV (w2.setCell ⟨b0, 0, none⟩ v') ∧ Stp n0 W (w2.setCell ⟨b0, 0, none⟩ v') := by
  have kb : ∀ {b : Nat} {c : Array Value} {t : TypeId}, W.heap[b]? = some (.cells c t (0, 0)) → some b ≠ vF.ownBlock → w2.heap[b]? = some (.cells c t (0, 0)) := fun {b c t} hb h2 => by
    have hlt := (Array.getElem?_eq_some_iff.1 hb).1
    rw [hg.block b (by simp; omega) h2]
    exact (Lib.alloc_old W _ b hlt).trans hb
  have k0 := kb h.c0 (Ne.symm (own_not h.oF h.c0 (by decide)))
  have k1 := kb h.c1 (Ne.symm (own_not h.oF h.c1 (by decide)))
  have k2 := kb h.c2 (Ne.symm (own_not h.oF h.c2 (by decide)))
  have k3 := kb h.c3 (Ne.symm (own_not h.oF h.c3 (by decide)))
  have k4 := kb h.c4 (Ne.symm (own_not h.oF h.c4 (by decide)))
  have ks := kb h.cs (Ne.symm (own_not h.oF h.cs (by decide)))
  have hV : w2.ownsRow n0 9 1 vV st.vs.length (strVals st.vs) := by
    refine own_move h.oV (fun g hg2 => ?_)
    obtain ⟨cells, hcc⟩ := own_typed h.oV g hg2
    exact (kb hcc (Ne.symm (own_not h.oF hcc (by decide)))).trans hcc.symm
  have hst : Stp n0 W w2 := ((FrameX.refl _ W).trans (FrameX.of_below ((Below.refl _ W).alloc (Nat.le_refl _) o))).grown hg (fun k hk _ => own_ex h.oF (by decide) hk.symm)
  refine ⟨by simp [World.cell?, k0], by simp [World.frozen?, k0], ⟨?_, blk_far k1 (ty_ne k1 k0 (by decide)) _, blk_far k2 (ty_ne k2 k0 (by decide)) _, blk_far k3 (ty_ne k3 k0 (by decide)) _, blk_far k4 (ty_ne k4 k0 (by decide)) _, blk_far ks (ty_ne ks k0 (by decide)) _, ?_,
    hV.kept (grownBy_setCell' w2 b0 _) (.inr (own_not hV k0 (by decide))), h.ne⟩, hst.setCell hb0 k0 (by decide) _ _⟩
  · have := blk_set k0 0 v'
    simpa using this
  · rw [fieldVals_snoc, List.length_append]
    exact hown'.kept (grownBy_setCell' w2 b0 _) (.inr (own_not hown' k0 (by decide)))
theorem pst_result (h : PSt n0 b0 b1 b2 b3 b4 bs raw st vF vV W) : Kd.R k35 35 W n0 (fun _ => True) vF st.fs := by
  refine ⟨fun _ _ => trivial, fieldVals st.fs, h.oF, fieldVals_length _, fun j p hj => ?_⟩
  have e : ((fieldVals st.fs).drop (j * 2)).take 2 = [.string p.f0, .string p.f1] := by
    have : ∀ (l : List S35) (j : Nat), l[j]? = some p → ((fieldVals l).drop (j * 2)).take 2 = [.string p.f0, .string p.f1] := by
      intro l
      induction l with
      | nil => intro j h; simp at h
      | cons x l ih =>
        intro j hj
        match j, hj with
        | 0, hj =>
          obtain rfl : x = p := by simpa using hj
          rfl
        | j + 1, hj =>
          have := ih j (by simpa using hj)
          have e1 : fieldVals (x :: l) = .string x.f0 :: .string x.f1 :: fieldVals l := rfl
          rw [e1, show (j + 1) * 2 = j * 2 + 1 + 1 by omega]
          exact this
    exact this st.fs j hj
  rw [show k35.sz = 2 from rfl, e]
  exact k35_mkM _ _ _ p
end
theorem cell_of {W : World} {b j : Nat} {c : Array Value} {t : TypeId} {v : Value} (h : W.heap[b]? = some (.cells c t (0, 0))) (hj : c[j]? = some v) : W.cell? ⟨b, j, none⟩ = some v := by simp [World.cell?, h, hj]
theorem frozen_of {W : World} {b j : Nat} {c : Array Value} {t : TypeId} (h : W.heap[b]? = some (.cells c t (0, 0))) : W.frozen? ⟨b, j, none⟩ = false := by simp [World.frozen?, h]
def w0P (w : World) (a0 : ByteArray) : World := (((((w.alloc (Obj.cells #[Value.slice none 0 0] 33)).alloc (Obj.cells #[Value.slice none 0 0] 42)).alloc (Obj.cells #[FIN w.heap.size (w.heap.size + 1)] 1)).alloc (Obj.cells #[ADD (w.heap.size + 1)] 76)).alloc (Obj.cells #[Value.int IntKind.i64 0] 3)).alloc (Obj.cells #[Value.string a0] 9)
theorem w0P_size (w : World) (a0 : ByteArray) : (w0P w a0).heap.size = w.heap.size + 6 := by unfold w0P; simp
theorem w0P_below (w : World) (a0 : ByteArray) : Below w.heap.size w (w0P w a0) := by
  unfold w0P
  exact ((((((Below.refl _ w).alloc (Nat.le_refl _) _).alloc (by simp) _).alloc (by simp <;> omega) _).alloc (by simp <;> omega) _).alloc (by simp <;> omega) _).alloc (by simp <;> omega) _
theorem alloc_at (X : World) (o : Obj) (i : Nat) (h : i = X.heap.size) : (X.alloc o).heap[i]? = some o := by rw [h]; exact World.alloc_heap_new X o
theorem alloc_old' (X : World) (o o' : Obj) (i : Nat) (h : X.heap[i]? = some o') : (X.alloc o).heap[i]? = some o' := (Lib.alloc_old X o i (Array.getElem?_eq_some_iff.1 h).1).trans h
theorem pst_start (w : World) (a0 : ByteArray) :
    PSt w.heap.size w.heap.size (w.heap.size + 1) (w.heap.size + 1 + 1) (w.heap.size + 1 + 1 + 1) (w.heap.size + 1 + 1 + 1 + 1) (w.heap.size + 1 + 1 + 1 + 1 + 1) a0 ⟨[], [], 0⟩ (.slice none 0 0) (.slice none 0 0) (w0P w a0) := by
  unfold w0P
  refine ⟨?_, ?_, ?_, ?_, ?_, ?_, own_nil _ _ _ _, own_nil _ _ _ _, by simp [Value.ownBlock]⟩
  · exact alloc_old' _ _ _ _ (alloc_old' _ _ _ _ (alloc_old' _ _ _ _ (alloc_old' _ _ _ _ (alloc_old' _ _ _ _ (alloc_at _ _ _ rfl)))))
  · exact alloc_old' _ _ _ _ (alloc_old' _ _ _ _ (alloc_old' _ _ _ _ (alloc_old' _ _ _ _ (alloc_at _ _ _ (by simp)))))
  · exact alloc_old' _ _ _ _ (alloc_old' _ _ _ _ (alloc_old' _ _ _ _ (alloc_at _ _ _ (by simp))))
  · exact alloc_old' _ _ _ _ (alloc_old' _ _ _ _ (alloc_at _ _ _ (by simp)))
  · exact alloc_old' _ _ _ _ (alloc_at _ _ _ (by simp))
  · exact alloc_at _ _ _ (by simp)
end Go.Proofs.YtieompfmhnpnaaaGreat.H
end
