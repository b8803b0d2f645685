/- Contracts, several texts in one: XRep, XRepB. -/
import Derived.Test.YtieompfmhnpnaaaGreatB0
import Derived.Test.YtieompfmhnpnaaaGreatXOnce
import Derived.Test.YtieompfmhnpnaaaGreatXStr
import Derived.Deep.WholeRow
import Derived.Deep.RegionHeld
import Derived.Lib.SliceRun
namespace Go.Proofs.YtieompfmhnpnaaaGreat.H
open Go.RowKit Go.Proofs.YtieompfmhnpnaaaGreatW.PrintWords Go.Proofs.YtieompfmhnpnaaaGreatW.PrintLast Go.Proofs.YtieompfmhnpnaaaGreatW.PrintMore
set_option linter.unusedVariables false
set_option linter.unusedSimpArgs false

/-- A Replacer of four strings that has not been asked yet; st: its lock's word. -/
structure NewRep (B : Nat) (w : World) (g : Nat) (st : Int) (x0 x1 x2 x3 : ByteArray) : Prop where
  ge : B ≤ g
  done : w.cell? ⟨g, 0, none⟩ = some (.int .u32 0)
  state : w.cell? ⟨g, 1, none⟩ = some (.int .i32 st)
  r : w.cell? ⟨g, 3, none⟩ = some .nilIface
  fz : ∀ j, w.frozen? ⟨g, j, none⟩ = false
  row : ∃ h cap, B ≤ h ∧ h ≠ g ∧ w.cell? ⟨g, 4, none⟩ = some (.slice (some ⟨h, 0, none⟩) 4 cap) ∧
    w.cell? ⟨h, 0, none⟩ = some (.string x0) ∧ w.cell? ⟨h, 1, none⟩ = some (.string x1) ∧ w.cell? ⟨h, 2, none⟩ = some (.string x2) ∧ w.cell? ⟨h, 3, none⟩ = some (.string x3)

theorem NewRep.locked {B : Nat} {w : World} {g : Nat} {st : Int} {x0 x1 x2 x3 : ByteArray} (h : NewRep B w g st x0 x1 x2 x3) (v : Int) : NewRep B (w.setCell ⟨g, 1, none⟩ (.int .i32 v)) g v x0 x1 x2 x3 := by
  obtain ⟨hge, h0, h1, h3, hf, k, cap, hB, hne, h4, c0, c1, c2, c3⟩ := h
  have far : ∀ j : Nat, j ≠ 1 → (w.setCell ⟨g, 1, none⟩ (.int .i32 v)).cell? ⟨g, j, none⟩ = w.cell? ⟨g, j, none⟩ := fun j hj => World.cell?_setCell_other _ _ _ _ (fun e => by injection e with _ e2; exact hj e2.symm)
  have far2 : ∀ j : Nat, (w.setCell ⟨g, 1, none⟩ (.int .i32 v)).cell? ⟨k, j, none⟩ = w.cell? ⟨k, j, none⟩ := fun j => World.cell?_setCell_other _ _ _ _ (fun e => by injection e with e2 _; exact hne e2.symm)
  exact ⟨hge, (far 0 (by decide)).trans h0, World.cell?_setCell_same _ _ _ h1, (far 3 (by decide)).trans h3, fun j => by rw [World.frozen?_setCell]; exact hf j, k, cap, hB, hne, (far 4 (by decide)).trans h4, (far2 0).trans c0, (far2 1).trans c1, (far2 2).trans c2, (far2 3).trans c3⟩

set_option maxRecDepth 100000 in
set_option maxHeartbeats 1000000 in
theorem new_replacer (b : Nat) (x0 x1 x2 x3 : ByteArray) (w : World) (c0 : w.cell? ⟨b, 0, none⟩ = some (.string x0)) (c1 : w.cell? ⟨b, 1, none⟩ = some (.string x1)) (c2 : w.cell? ⟨b, 2, none⟩ = some (.string x2)) (c3 : w.cell? ⟨b, 3, none⟩ = some (.string x3)) :
    Calls Tryz.prog 52 #[.slice (some ⟨b, 0, none⟩) 4 4] w fun e w' => ∃ g, e = .returned (.pointer (some ⟨g, 0, none⟩)) ∧ NewRep w.heap.size w' g 0 x0 x1 x2 x3 ∧ Below w.heap.size w w' := by
  obtain ⟨i0, hi, hz0, hz1, hz2⟩ := info_parts info9
  have hown := World.ownsRow_nil w w.heap.size 9 1
  go_enter Tryz.func52, Tryz.ntmps52
  go_wp2_with fail
  generalize (Question.appendCap 4 0 9).cut (w.tape w.drawn (Question.appendCap 4 0 9)) = cap
  go_ret
  refine ⟨w.heap.size + 1, rfl, ?_, ?_⟩
  · obtain ⟨W, hW⟩ : ∃ W, W = w.alloc (Obj.cells (#[Value.string x0, Value.string x1, Value.string x2, Value.string x3] ++ Builtin.zeroCells #[Value.string { data := #[] }] (cap - 4)) 9) := ⟨_, rfl⟩
    have hn := heap_alloc_new W (Obj.cells #[Value.int IntKind.u32 0, Value.int IntKind.i32 0, Value.int IntKind.u32 0, Value.nilIface, Value.slice (some { block := w.heap.size, off := 0 }) 4 cap] 105)
    have hs : W.heap.size = w.heap.size + 1 := by rw [hW, World.size_alloc]
    rw [← hW]
    rw [hs] at hn
    have hh : ∀ j : Nat, ((W.alloc (Obj.cells #[Value.int IntKind.u32 0, Value.int IntKind.i32 0, Value.int IntKind.u32 0, Value.nilIface, Value.slice (some { block := w.heap.size, off := 0 }) 4 cap] 105)).drew).cell? ⟨w.heap.size, j, none⟩ = W.cell? ⟨w.heap.size, j, none⟩ := fun j => World.cell?_alloc_lt W _ ⟨w.heap.size, j, none⟩ (by show w.heap.size < W.heap.size; omega)
    refine ⟨by omega, ?_, ?_, ?_, fun j => ?_, w.heap.size, cap, Nat.le_refl _, by omega, ?_, ?_, ?_, ?_, ?_⟩
    · exact (Lib.cell_of_heap hn 0)
    · exact (Lib.cell_of_heap hn 1)
    · exact (Lib.cell_of_heap hn 3)
    · exact (Lib.frozen_of_heap hn j)
    · exact (Lib.cell_of_heap hn 4)
    all_goals (rw [hh, hW]; simp [Array.getElem?_append])
  · exact (((Below.refl _ _).alloc (Nat.le_refl _) _).alloc (by simp) _).drew

/-- The table while it is filled. -/
def idTab (n k : Nat) : List Int := (List.range n).map fun j => if j < k then (j : Int) else 0
theorem idTab_length (n k : Nat) : (idTab n k).length = n := by simp [idTab]
theorem idTab_set (n k : Nat) (h : k < n) : (idTab n k).set k (k : Int) = idTab n (k + 1) := by
  apply List.ext_getElem
  · simp [idTab]
  · intro i h1 h2
    simp [idTab, List.getElem_set]
    by_cases e : k = i
    · subst e; simp
    · rw [if_neg e]
      by_cases h3 : i < k
      · rw [if_pos h3, if_pos (by omega)]
      · rw [if_neg h3, if_neg (by omega)]
theorem idTab_zero (n : Nat) : idTab n 0 = List.replicate n 0 := by
  apply List.ext_getElem
  · simp [idTab]
  · intro i h1 h2
    simp [idTab]
def tabk (k : Nat) : List Int := idTab 256 k
theorem tabk_length (k : Nat) : (tabk k).length = 256 := idTab_length 256 k
theorem tabk_set (k : Nat) (h : k < 256) : (tabk k).set k (k : Int) = tabk (k + 1) := idTab_set 256 k h
theorem tabk_zero : tabk 0 = List.replicate 256 0 := idTab_zero 256
theorem tabk_at (k : Nat) (h : k < 256) : (tabk k).getD k 0 = 0 := by simp [tabk, idTab, h, List.getD]
/-- The table of two pairs of bytes. -/
def tab2 (a0 a1 a2 a3 : UInt8) : List Int := ((tabk 256).set a2.toNat (a3.toNat : Int)).set a0.toNat (a1.toNat : Int)
theorem tab2_length (a0 a1 a2 a3 : UInt8) : (tab2 a0 a1 a2 a3).length = 256 := by simp [tab2, tabk_length]

theorem zeroCells128_eq : Tryz.zeroCells128 = (List.replicate 256 (Value.int .u8 0)).toArray := by kernel_rfl

def Stage3 (wr w1 w2 : World) (i : Value) (W : World) : Prop := (i = .int .i64 2 ∧ W = wr) ∨ (i = .int .i64 0 ∧ W = w1) ∨ (i = .int .i64 (-2) ∧ W = w2)
theorem zeros_at (w : World) (n j : Nat) (hj : j < n) : (w.alloc (Obj.cells (List.replicate n (Value.int .u8 0)).toArray 128)).cell? ⟨w.heap.size, j, none⟩ = some (.int .u8 ((List.replicate n (0 : Int)).getD j 0)) ∧ (w.alloc (Obj.cells (List.replicate n (Value.int .u8 0)).toArray 128)).frozen? ⟨w.heap.size, j, none⟩ = false := by
  refine ⟨?_, by simp⟩
  rw [World.cell?_alloc_new]
  simp [List.getD, hj]

set_option maxRecDepth 100000 in
set_option maxHeartbeats 1000000 in
/-- (*Replacer).build at four strings of one byte each: a table of bytes. -/
theorem build_bytes (B g : Nat) (st : Int) (a0 a1 a2 a3 : UInt8) (w : World) (hr : NewRep B w g st ⟨#[a0]⟩ ⟨#[a1]⟩ ⟨#[a2]⟩ ⟨#[a3]⟩) :
    Calls Tryz.prog 95 #[.pointer (some ⟨g, 0, none⟩)] w fun e w' => ∃ h, e = .returned (.iface 129 (.pointer (some ⟨h, 0, none⟩))) ∧ w.heap.size ≤ h ∧ RowB w' h 256 (tab2 a0 a1 a2 a3) ∧ Below w.heap.size w w' := by
  obtain ⟨hge, -, -, -, -, h, cap, hB, hne, g4, c0, c1, c2, c3⟩ := hr
  have hlt : h < w.heap.size := World.block_lt_of_cell? w ⟨h, 0, none⟩ c0
  go_enter Tryz.func95, Tryz.ntmps95
  go_wp2_with fail
  go_loop [4, 5] (fun a i => ∃ k : Nat, k ≤ 2 ∧ a = .bool true ∧ i = .int .i64 (2 * k : Nat)) (fun _ i => (4 - intOf i).toNat)
  case atStart => exact ⟨0, by omega, rfl, rfl⟩
  case round =>
    obtain ⟨k, hk, rfl, rfl⟩ := hrel
    obtain rfl | rfl | rfl : k = 0 ∨ k = 1 ∨ k = 2 := by omega
    · go_wp2_with fail
      go_round
      case rel => exact ⟨1, by omega, rfl, rfl⟩
      case measure => simp [intOf]
    · go_wp2_with fail
      go_round
      case rel => exact ⟨2, by omega, rfl, rfl⟩
      case measure => simp [intOf]
    · have hst := run_storeCells_new (P := Tryz.prog) w 128 Tryz.zeroCells128 Tryz.zeroCells128 (by kernel_rfl) rfl (by kernel_rfl)
      go_wp2_with fail
      clear hst
      have hrow0 : RowB (w.alloc (Obj.cells Tryz.zeroCells128 128)) w.heap.size 256 (tabk 0) := fun j hj => by
        rw [zeroCells128_eq, tabk_zero]
        exact zeros_at w 256 j hj
      have hold0 : Below w.heap.size w (w.alloc (Obj.cells Tryz.zeroCells128 128)) := (Below.refl _ _).alloc (Nat.le_refl _) _
      go_loopw [61] (fun i wr => ∃ k : Nat, k ≤ 256 ∧ i = .int .i64 k ∧ RowB wr w.heap.size 256 (tabk k) ∧ Below w.heap.size w wr) (fun i _ => 256 - (intOf i).toNat)
      case atStart => exact ⟨0, by omega, rfl, hrow0, hold0⟩
      case round =>
        obtain ⟨k, hk, rfl, hown, hB1⟩ := hrel
        clear hrow0 hold0
        by_cases hk2 : k < 256
        · have hcell := (hown k hk2).1
          have hfz := (hown k hk2).2
          have hs := hown.set (tabk_length k) k hk2 (k : Int)
          rw [tabk_set k hk2] at hs
          have HS := Aside0.mk hs
          clear hs
          go_wp2_with fail
          go_roundw
          case rel => exact ⟨k + 1, by omega, by go_num, HS.out, hB1.setCell (p := ⟨w.heap.size, k, none⟩) (Nat.le_refl _) _⟩
          case measure => simp [intOf]; omega
        · have hkk : k = 256 := by omega
          subst hkk
          have d0 := pw_cell_below hB1 c0
          have d1 := pw_cell_below hB1 c1
          have d2 := pw_cell_below hB1 c2
          have d3 := pw_cell_below hB1 c3
          have b2 := a2.toNat_lt
          have b0 := a0.toNat_lt
          have e2 := hown a2.toNat b2
          have g0 : 0 ≤ (a0.toNat : Int) := by omega
          have g2 : 0 ≤ (a2.toNat : Int) := by omega
          have hs2 := hown.set (tabk_length 256) a2.toNat b2 (a3.toNat : Int)
          have hs0 := hs2.set (by simp [tabk_length]) a0.toNat b0 (a1.toNat : Int)
          have e0 := hs2 a0.toNat b0
          obtain ⟨e2a, e2b⟩ := e2
          obtain ⟨e0a, e0b⟩ := e0
          have f0 : (wr.setCell ⟨w.heap.size, a2.toNat, none⟩ (.int .u8 (a3.toNat : Int))).cell? ⟨h, 0, none⟩ = some (.string ⟨#[a0]⟩) := (World.cell?_setCell_far wr ⟨w.heap.size, a2.toNat, none⟩ ⟨h, 0, none⟩ _ (by simp; omega)).trans d0
          have f1 : (wr.setCell ⟨w.heap.size, a2.toNat, none⟩ (.int .u8 (a3.toNat : Int))).cell? ⟨h, 1, none⟩ = some (.string ⟨#[a1]⟩) := (World.cell?_setCell_far wr ⟨w.heap.size, a2.toNat, none⟩ ⟨h, 1, none⟩ _ (by simp; omega)).trans d1
          have HS0 := Aside0.mk hs0
          have HB1 := Aside0.mk hB1
          clear hs0 hs2 hown hB1 c0 c1 c2 c3
          have k0 : ∀ hh : 0 < (⟨#[a0]⟩ : ByteArray).size, (⟨#[a0]⟩ : ByteArray)[0]'hh = a0 := fun _ => rfl
          have k1 : ∀ hh : 0 < (⟨#[a1]⟩ : ByteArray).size, (⟨#[a1]⟩ : ByteArray)[0]'hh = a1 := fun _ => rfl
          have k2 : ∀ hh : 0 < (⟨#[a2]⟩ : ByteArray).size, (⟨#[a2]⟩ : ByteArray)[0]'hh = a2 := fun _ => rfl
          have k3 : ∀ hh : 0 < (⟨#[a3]⟩ : ByteArray).size, (⟨#[a3]⟩ : ByteArray)[0]'hh = a3 := fun _ => rfl
          go_wp2_with fail
          obtain ⟨w1, hw1⟩ : ∃ w1, w1 = wr.setCell ⟨w.heap.size, a2.toNat, none⟩ (.int .u8 (a3.toNat : Int)) := ⟨_, rfl⟩
          rw [← hw1] at f0 f1 e0a e0b HS0
          have HW := Aside0.mk hw1
          clear hw1
          go_loopw [8] (Stage3 wr w1 (w1.setCell ⟨w.heap.size, a0.toNat, none⟩ (.int .u8 (a1.toNat : Int)))) (fun i _ => (intOf i + 2).toNat)
          case atStart => exact .inl ⟨rfl, rfl⟩
          case round =>
            rcases hrel with ⟨rfl, rfl⟩ | ⟨rfl, rfl⟩ | ⟨rfl, rfl⟩
            · go_wp2_with fail
              go_roundw
              case rel => exact .inr (.inl ⟨rfl, HW.out.symm⟩)
              case measure => simp [intOf]
            · go_wp2_with fail
              go_roundw
              case rel => exact .inr (.inr ⟨rfl, rfl⟩)
              case measure => simp [intOf]
            · go_wp2_with fail
              go_ret
              refine ⟨w.heap.size, rfl, Nat.le_refl _, HS0.out, ?_⟩
              rw [HW.out]
              exact (HB1.out.setCell (p := ⟨w.heap.size, a2.toNat, none⟩) (Nat.le_refl _) _).setCell (p := ⟨w.heap.size, a0.toNat, none⟩) (Nat.le_refl _) _

theorem RowB.far {w : World} {g h n : Nat} {xs : List Int} (r : RowB w h n xs) (hne : g ≠ h) (j : Nat) (v : Value) : RowB (w.setCell ⟨g, j, none⟩ v) h n xs := fun i hi =>
  ⟨(World.cell?_setCell_far w ⟨g, j, none⟩ ⟨h, i, none⟩ v hne).trans (r i hi).1, by rw [World.frozen?_setCell]; exact (r i hi).2⟩

/-- What buildOnce leaves: a replacer over a table of bytes. -/
def Tabled (B g : Nat) (tab : List Int) (w0 w : World) : Prop := ∃ h, B ≤ h ∧ h ≠ g ∧ w.cell? ⟨g, 3, none⟩ = some (.iface 129 (.pointer (some ⟨h, 0, none⟩))) ∧ RowB w h 256 tab ∧ Below B w0 w

set_option maxRecDepth 100000 in
set_option maxHeartbeats 1000000 in
theorem buildOnce_bytes (B g : Nat) (a0 a1 a2 a3 : UInt8) (w : World) (hr : NewRep B w g 1 ⟨#[a0]⟩ ⟨#[a1]⟩ ⟨#[a2]⟩ ⟨#[a3]⟩) :
    Calls Tryz.prog 81 #[.pointer (some ⟨g, 0, none⟩)] w fun e w' => e = .returned (.tuple #[]) ∧ Held w' g ∧ Tabled B g (tab2 a0 a1 a2 a3) w w' := by
  have HR := Aside0.mk hr
  have hge := hr.ge
  have hlt : g < w.heap.size := World.block_lt_of_cell? w ⟨g, 0, none⟩ hr.done
  go_enter Tryz.func81, Tryz.ntmps81
  go_wp2_with fail
  refine (build_bytes B g 1 a0 a1 a2 a3 w HR.out).mono ?_
  rintro e w1 ⟨h, rfl, hh, hrow, hb⟩
  have d0 := pw_cell_below hb HR.out.done
  have d1 := pw_cell_below hb HR.out.state
  have d3 := pw_cell_below hb HR.out.r
  obtain ⟨k, cap, -, -, d4', -⟩ := HR.out.row
  have d4 := pw_cell_below hb d4'
  clear d4'
  have fz : ∀ j, w1.frozen? ⟨g, j, none⟩ = false := fun j => (hb.frozen (p := ⟨g, j, none⟩) hlt).trans (HR.out.fz j)
  have f3 := fz 3
  have f4 := fz 4
  have HROW := Aside0.mk hrow
  have HB := Aside0.mk hb
  have FZ := Aside0.mk fz
  clear hrow hb fz hr
  go_wp2_with fail
  go_end0
  have hgh : g ≠ h := by omega
  have hBw : Below B w w1 := HB.out.mono (by omega)
  refine ⟨rfl, ⟨?_, ?_, ?_, ?_⟩, h, by omega, by omega, ?_, ?_, (hBw.setCell (p := ⟨g, 3, none⟩) hge _).setCell (p := ⟨g, 4, none⟩) hge _⟩
  · exact (World.cell?_setCell_other _ ⟨g, 4, none⟩ ⟨g, 0, none⟩ _ (by simp)).trans ((World.cell?_setCell_other _ ⟨g, 3, none⟩ ⟨g, 0, none⟩ _ (by simp)).trans d0)
  · exact (World.cell?_setCell_other _ ⟨g, 4, none⟩ ⟨g, 1, none⟩ _ (by simp)).trans ((World.cell?_setCell_other _ ⟨g, 3, none⟩ ⟨g, 1, none⟩ _ (by simp)).trans d1)
  · rw [World.frozen?_setCell, World.frozen?_setCell]; exact FZ.out 0
  · rw [World.frozen?_setCell, World.frozen?_setCell]; exact FZ.out 1
  · exact (World.cell?_setCell_other _ ⟨g, 4, none⟩ ⟨g, 3, none⟩ _ (by simp)).trans (World.cell?_setCell_same _ _ _ d3)
  · exact (HROW.out.far hgh 3 _).far hgh 4 _

end Go.Proofs.YtieompfmhnpnaaaGreat.H

namespace Go.Proofs.YtieompfmhnpnaaaGreat.H
open Go.RowKit Go.Proofs.YtieompfmhnpnaaaGreatW.PrintWords Go.Proofs.YtieompfmhnpnaaaGreatW.PrintLast Go.Proofs.YtieompfmhnpnaaaGreatW.PrintMore
set_option linter.unusedVariables false
set_option linter.unusedSimpArgs false

/-- What a table makes of a byte. -/
def tv (tab : List Int) (c : UInt8) : Int := tab.getD c.toNat 0
def tabRow (s : ByteArray) (tab : List Int) (k : Nat) : List Int := (s.data.toList.take k).map (tv tab) ++ (s.data.toList.drop k).map (fun c => (c.toNat : Int))
/-- A string with each byte turned by a table. -/
def tabS (s : ByteArray) (tab : List Int) : ByteArray := strOfNums (s.data.toList.map (tv tab))

theorem tabRow_length (s : ByteArray) (tab : List Int) (k : Nat) (h : k ≤ s.size) : (tabRow s tab k).length = s.size := by
  have : s.data.toList.length = s.size := by simp
  simp [tabRow]
  omega
theorem tabRow_at (s : ByteArray) (tab : List Int) (k : Nat) (h : k < s.size) : (tabRow s tab k).getD k 0 = (s[k].toNat : Int) := by
  have hl : s.data.toList.length = s.size := by simp
  unfold tabRow
  rw [List.getD_eq_getElem?_getD, List.getElem?_append_right (by simp; omega)]
  simp
  rw [Nat.min_eq_left (by omega)]
  simp [h]
  rfl
theorem tabRow_set (s : ByteArray) (tab : List Int) (k : Nat) (h : k < s.size) : (tabRow s tab k).set k (tv tab s[k]) = tabRow s tab (k + 1) := by
  have hl : s.data.toList.length = s.size := by simp
  have hk : k < s.data.toList.length := by omega
  unfold tabRow
  rw [List.set_append_right _ _ (by simp; omega)]
  rw [List.take_succ_eq_append_getElem hk, List.map_append, List.append_assoc]
  congr 1
  have e : s.data.toList.drop k = s.data.toList[k] :: s.data.toList.drop (k + 1) := List.drop_eq_getElem_cons hk
  rw [e]
  simp
  rw [Nat.min_eq_left (by omega)]
  simp
  rfl
theorem tabRow_same (s : ByteArray) (tab : List Int) (k : Nat) (h : k < s.size) (he : tv tab s[k] = (s[k].toNat : Int)) : tabRow s tab (k + 1) = tabRow s tab k := by
  rw [← tabRow_set s tab k h, he]
  have hl := tabRow_length s tab k (by omega)
  apply List.ext_getElem
  · simp
  · intro i h1 h2
    rw [List.getElem_set]
    by_cases e : k = i
    · subst e
      rw [if_pos rfl]
      have := tabRow_at s tab k h
      rw [List.getD_eq_getElem?_getD, List.getElem?_eq_getElem h2] at this
      simpa using this.symm
    · rw [if_neg e]
theorem tabRow_end (s : ByteArray) (tab : List Int) : strOfNums (tabRow s tab s.size) = tabS s tab := by
  have hl : s.data.toList.length = s.size := by simp
  unfold tabRow tabS
  rw [List.drop_of_length_le (by omega), List.take_of_length_le (by omega)]
  simp
theorem tabRow_zero (s : ByteArray) (tab : List Int) : strOfNums (tabRow s tab 0) = s := by
  unfold tabRow
  have := byteInts_back s.data.toList
  unfold byteInts at this
  simpa using this

/-- The loop's buffer: none yet, or a row of its own. -/
def BufSt (B : Nat) (s : ByteArray) (tab : List Int) (k : Nat) (v : Value) (w : World) : Prop :=
  (v = .slice none 0 0 ∧ tabRow s tab k = tabRow s tab 0) ∨ ∃ g cap, B ≤ g ∧ v = .slice (some ⟨g, 0, none⟩) s.size cap ∧ RowB w g s.size (tabRow s tab k)

theorem row_of_bytes (w : World) (s : ByteArray) (tab : List Int) : RowB (Lib.bytesWorld w 5 s) w.heap.size s.size (tabRow s tab 0) := fun j hj => by
  refine ⟨?_, ?_⟩
  · rw [Lib.bytesWorld_cell w 5 s j hj]
    simp [tabRow, List.getD, hj]
  · have hb := Lib.bytesWorld_at_new w 5 s
    have hz : s.size ≤ (Lib.bytesCells w 5 s).size := by simp [Lib.bytesCells]
    unfold World.frozen?
    rw [show (Lib.bytesWorld w 5 s).heap[(⟨w.heap.size, j, none⟩ : Addr).block]? = _ from hb]
    simp
    omega
theorem below_bytes {B : Nat} {w W : World} (h : Below B w W) (hB : B ≤ W.heap.size) (s : ByteArray) : Below B w (Lib.bytesWorld W 5 s) := by
  refine h.trans ⟨rfl, rfl, rfl, ?_, fun i hi => Lib.bytesWorld_at_old W 5 s i (by omega)⟩
  rw [Lib.bytesWorld_size]
  omega
theorem RowB.below {w w1 : World} {h n : Nat} {xs : List Int} {B : Nat} (r : RowB w h n xs) (hb : Below B w w1) (hB : h < B) : RowB w1 h n xs := fun j hj =>
  ⟨(hb.cell (p := ⟨h, j, none⟩) hB).trans (r j hj).1, (hb.frozen (p := ⟨h, j, none⟩) hB).trans (r j hj).2⟩

set_option maxRecDepth 100000 in
set_option maxHeartbeats 1000000 in
theorem byteReplace (h : Nat) (tab : List Int) (s : ByteArray) (w : World) (hs : s.size ≤ 1099511627776) (hr : RowB w h 256 tab) (hlt : h < w.heap.size) :
    Calls Tryz.prog 156 #[.pointer (some ⟨h, 0, none⟩), .string s] w fun e w' => e = .returned (.string (tabS s tab)) ∧ Below w.heap.size w w' := by
  have hcv : ∀ W : World, (convert 9 45 (.string s)).run Tryz.prog W = .ok (.slice (some ⟨W.heap.size, 0, none⟩) s.size (grownCap W s.size 0 5)) (Lib.bytesWorld W 5 s) := fun W => Lib.run_convert_string_bytes W 9 45 5 s Tryz.underlying9 Tryz.underlying45 Tryz.underlying5
  have qT : ∀ (w : World) (a : Option Addr) (n c n' c' : Nat), (binOp .eql 45 (.slice a n c) (.slice none n' c')).run Tryz.prog w = .ok (.bool a.isNone) w := fun w a n c n' c' => Lib.run_eql_slice_nil w _ _ a n c n' c' Tryz.underlying45
  go_enter Tryz.func156, Tryz.ntmps156
  go_wp2_with fail
  go_loopw [5, 6] (fun v i wr => ∃ k : Nat, k ≤ s.size ∧ i = .int .i64 k ∧ BufSt w.heap.size s tab k v wr ∧ Below w.heap.size w wr) (fun _ i _ => s.size - (intOf i).toNat)
  case atStart => exact ⟨0, Nat.zero_le _, rfl, .inl ⟨rfl, rfl⟩, Below.refl _ _⟩
  case round =>
    obtain ⟨k, hk, rfl, hbuf, hB⟩ := hrel
    have hr1 := hr.below hB hlt
    by_cases hk2 : k < s.size
    · have hc := s[k].toNat_lt
      have g0 : 0 ≤ (s[k].toNat : Int) := by omega
      have hcell := (hr1 s[k].toNat hc).1
      have htv : tab.getD s[k].toNat 0 = tv tab s[k] := rfl
      rw [htv] at hcell
      by_cases he : tv tab s[k] = (s[k].toNat : Int)
      · have hb : (tv tab s[k] != (s[k].toNat : Int)) = false := by simpa using he
        have hsame := tabRow_same s tab k hk2 he
        have HS := Lib.hid hsame
        have HBUF := Aside0.mk hbuf
        clear hsame he hbuf htv hr1 hr
        go_wp2_with fail
        go_roundw
        case rel =>
          refine ⟨k + 1, by omega, by go_num, ?_, hB⟩
          unfold BufSt
          rw [HS.out]
          exact HBUF.out
        case measure => simp [intOf]; omega
      · have hb : (tv tab s[k] != (s[k].toNat : Int)) = true := by simpa using he
        rcases hbuf with ⟨rfl, h0⟩ | ⟨g, cap, hg, rfl, hrow⟩
        · have hrow := row_of_bytes wr s tab
          rw [← h0] at hrow
          have hcell2 := (((hr.below hB hlt).below (below_bytes (Below.refl wr.heap.size wr) (Nat.le_refl _) s) (by have := hB.size; omega)) s[k].toNat hc).1
          rw [htv] at hcell2
          have hk0 := (hrow k hk2).1
          have hkf := (hrow k hk2).2
          have hset := hrow.set (tabRow_length s tab k (by omega)) k hk2 (tv tab s[k])
          rw [tabRow_set s tab k hk2] at hset
          have HSET := Aside0.mk hset
          have HB2 := Aside0.mk (below_bytes hB hB.size s)
          clear hset hrow h0 he htv hr1 hr
          have hsz := hB.size
          go_wp2_with fail
          go_roundw
          case rel => exact ⟨k + 1, by omega, by go_num, .inr ⟨wr.heap.size, _, hsz, rfl, HSET.out⟩, HB2.out.setCell (p := ⟨wr.heap.size, k, none⟩) hsz _⟩
          case measure => simp [intOf]; omega
        · have hk0 := (hrow k hk2).1
          have hkf := (hrow k hk2).2
          have hset := hrow.set (tabRow_length s tab k (by omega)) k hk2 (tv tab s[k])
          rw [tabRow_set s tab k hk2] at hset
          have HSET := Aside0.mk hset
          clear hset hrow he htv hr1 hr
          go_wp2_with fail
          go_roundw
          case rel => exact ⟨k + 1, by omega, by go_num, .inr ⟨g, cap, hg, rfl, HSET.out⟩, hB.setCell (p := ⟨g, k, none⟩) hg _⟩
          case measure => simp [intOf]; omega
    · have hkk : k = s.size := by omega
      subst hkk
      rcases hbuf with ⟨rfl, h0⟩ | ⟨g, cap, hg, rfl, hrow⟩
      · have hend := tabRow_end s tab
        rw [h0, tabRow_zero] at hend
        have HE := Lib.hid hend
        clear hend h0 hr hr1
        go_wp2_with fail
        go_ret
        exact ⟨congrArg (fun x => Ending.returned (Value.string x)) HE.out, hB⟩
      · have hc := fun cap => run_convert_bytes_arg (P := Tryz.prog) wr 45 5 Tryz.underlying45 Tryz.underlying5 g 0 s.size cap _ (tabRow_length s tab _ (Nat.le_refl _)) (fun i hi => by rw [Nat.zero_add]; exact (hrow i hi).1) 9 Tryz.underlying9
        rw [tabRow_end] at hc
        clear hr hr1 hrow
        go_wp2_with fail
        go_ret
        exact ⟨rfl, hB⟩

theorem method129 (a : Addr) (w : World) : (method 290 129 (.pointer (some a)) "Replace").run Tryz.prog w = .ok (156, .pointer (some a)) w := by kernel_rfl

set_option maxRecDepth 100000 in
set_option maxHeartbeats 1000000 in
theorem replace_bytes (B g : Nat) (a0 a1 a2 a3 : UInt8) (s : ByteArray) (w : World) (hs : s.size ≤ 1099511627776) (hB : B ≤ w.heap.size) (hr : NewRep B w g 0 ⟨#[a0]⟩ ⟨#[a1]⟩ ⟨#[a2]⟩ ⟨#[a3]⟩) :
    Calls Tryz.prog 53 #[.pointer (some ⟨g, 0, none⟩), .string s] w fun e w' => e = .returned (.string (tabS s (tab2 a0 a1 a2 a3))) ∧ Below B w w' := by
  have hge := hr.ge
  have hlock := hr.locked 1
  have hfn := buildOnce_bytes B g a0 a1 a2 a3 _ hlock
  have hfresh : Fresh w g := ⟨hr.done, hr.state, hr.fz 0, hr.fz 1⟩
  have HFN := Aside0.mk hfn
  clear hfn hlock hr
  go_enter Tryz.func53, Tryz.ntmps53
  go_wp2_with fail
  refine (do_first g w hfresh _ HFN.out).mono ?_
  rintro e w1 ⟨rfl, w2, ⟨h, hh, hhg, hc3, hrow, hb⟩, hw⟩
  have e3 : w1.cell? ⟨g, 3, none⟩ = some (.iface 129 (.pointer (some ⟨h, 0, none⟩))) := by
    rw [hw]
    exact (World.cell?_setCell_other _ ⟨g, 1, none⟩ ⟨g, 3, none⟩ _ (by simp)).trans ((World.cell?_setCell_other _ ⟨g, 0, none⟩ ⟨g, 3, none⟩ _ (by simp)).trans hc3)
  have hrow1 : RowB w1 h 256 (tab2 a0 a1 a2 a3) := by
    rw [hw]
    exact (RowB.far (w := w2.drew) hrow (Ne.symm hhg) 0 _).far (Ne.symm hhg) 1 _
  have hb1 : Below B w w1 := by
    rw [hw]
    exact (((((Below.refl B w).setCell (p := ⟨g, 1, none⟩) hge _).trans hb).drew).setCell (p := ⟨g, 0, none⟩) hge _).setCell (p := ⟨g, 1, none⟩) hge _
  have hlt : h < w1.heap.size := World.block_lt_of_cell? w1 ⟨h, 0, none⟩ (hrow1 0 (by decide)).1
  clear hw hrow hb hc3
  have HROW := Aside0.mk hrow1
  have HB := Aside0.mk hb1
  clear hrow1 hb1
  have hm := method129
  go_wp2_with fail
  refine (byteReplace h _ s w1 hs HROW.out hlt).mono ?_
  rintro e w3 ⟨rfl, hb3⟩
  have HB3 := Aside0.mk hb3
  clear hb3
  go_wp2_with fail
  go_ret
  exact ⟨rfl, HB.out.trans (HB3.out.mono (by have := HB.out.size; omega))⟩
end Go.Proofs.YtieompfmhnpnaaaGreat.H
