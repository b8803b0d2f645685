/- Part 2 of the proof of Ht: contracts and plain laws, joined and shortened by bundle.py of this repo. -/
import Derived.Test.YtieompfmhnpnaaaGreatKHt1
import Derived.Deep.QuietTactic
import Derived.BigQuiet
import Derived.Conc.MuLone
import Derived.Defers
import Derived.Laws.LoneSync
import Derived.Laws.NewBlocks
import Derived.RegionTactic
import Derived.RegionCalls
import Derived.KernelRfl
import Derived.Lib.Hide
import Derived.Deep.WholeRow
import Derived.Deep.RegionHeld
import Derived.Lib.SliceRun
import Derived.Deep.RegionHeld3
section
namespace Go.Proofs.YtieompfmhnpnaaaGreat.H
open Go.RowKit Go.Proofs.YtieompfmhnpnaaaGreatW.PrintWords Go.Proofs.YtieompfmhnpnaaaGreatW.PrintLast Go.Proofs.YtieompfmhnpnaaaGreatW.PrintMore
attribute [local go_sem] max2_int min2_int max_two min_two max_three min_three max_four min_four
set_option linter.unusedVariables false
set_option linter.unusedSimpArgs false
def missiveref09_quoted.l0 : Nat → ByteArray → Int → Option (Int)
  | 0, _, _ => none
  | k + 1, x0, x5 => if x5 < (x0.size : Int) then (if 0 ≤ x5 then (if (bt x0 x5) = 34 then (some (wrap64 (x5 + 1))) else (if (bt x0 x5) = 92 then (missiveref09_quoted.l0 k x0 (wrap64 ((wrap64 (x5 + 1)) + 1))) else (missiveref09_quoted.l0 k x0 (wrap64 (x5 + 1))))) else (none)) else (some (x0.size : Int))
def missiveref09_quoted.f (k : Nat) (a0 : ByteArray) (a1 : Int) : Option (Int) := missiveref09_quoted.l0 k a0 (wrap64 (a1 + 1))
theorem missiveref09_quoted.mono_l : ∀ k, (∀ y0 y1, LeO (missiveref09_quoted.l0 k y0 y1) (missiveref09_quoted.l0 (k + 1) y0 y1))
  | 0 => fun _ _ r h => by simp [missiveref09_quoted.l0] at h
  | k + 1 => by
    have ih0 := missiveref09_quoted.mono_l k
    · intro y0 y1
      unfold missiveref09_quoted.l0
      repeat' first
      | (with_reducible exact ih0 _ _)
      | (with_reducible exact LeO.refl _)
      | (with_reducible exact LeO.none _)
      | (with_reducible refine LeO.ite ?_ ?_)
      | (with_reducible refine LeO.bind ?_ (fun _ => ?_))
      | exact ih0 _ _
      | exact LeO.none _
      | refine LeO.ite ?_ ?_
      | refine LeO.bind ?_ (fun _ => ?_)
theorem missiveref09_quoted.mono : ∀ a0 a1 k, LeO (missiveref09_quoted.f k a0 a1) (missiveref09_quoted.f (k + 1) a0 a1) := by
  intro a0 a1 k
  have ih0 := missiveref09_quoted.mono_l k
  unfold missiveref09_quoted.f
  repeat' first
      | (with_reducible exact ih0 _ _)
      | (with_reducible exact LeO.refl _)
      | (with_reducible exact LeO.none _)
      | (with_reducible refine LeO.ite ?_ ?_)
      | (with_reducible refine LeO.bind ?_ (fun _ => ?_))
      | exact ih0 _ _
      | exact LeO.none _
      | refine LeO.ite ?_ ?_
      | refine LeO.bind ?_ (fun _ => ?_)
set_option maxHeartbeats 8000000 in
set_option maxRecDepth 100000 in
theorem missiveref09_quoted.calls (k : Nat) (a0 : ByteArray) (a1 : Int) (r : Int) (w : World) (h : missiveref09_quoted.f k a0 a1 = some r) :
    Calls Tryz.prog 76 #[.string a0, .int .i64 a1] w fun e w' => e = .returned (.int .i64 r) ∧ Drawn0 w w' := by
  have H : (missiveref09_quoted.l0 k a0 (wrap64 (a1 + 1))) = some r := h
  clear h
  have H' := Aside0.mk H
  clear H
  go_enter Tryz.func76, Tryz.ntmps76
  go_wp2
  go_loopg [5] k (fun kq v5 w' => ∃ (x5_1 : Int), v5 = .int .i64 x5_1 ∧ Aside0 (missiveref09_quoted.l0 kq a0 x5_1 = some r) ∧ Aside0 (kq ≤ k) ∧ Drawn0 w w')
  case atStart => exact ⟨(wrap64 (a1 + 1)), (by first | rfl | (simp; done) | (simp [*]; done)), H', ⟨Nat.le_refl _⟩, by repeat (first | exact Drawn0.refl _ | apply Drawn0.step)⟩
  case round =>
    clear H'
    try clear p2
    obtain ⟨x5_1, rfl, HA, HK1, ⟨m1, rfl⟩⟩ := hrel
    cases gk with
    | zero => exact absurd HA.out (by simp [missiveref09_quoted.l0])
    | succ k1 =>
      have H := HA.out
      clear HA
      simp only [missiveref09_quoted.l0] at H
      by_cases c3 : x5_1 < (a0.size : Int)
      · rw [if_pos c3] at H
        have c3b0 : decide (x5_1 < (a0.size : Int)) = true := decide_eq_true c3
        clear c3
        by_cases c4 : 0 ≤ x5_1
        · rw [if_pos c4] at H
          have c4b0 : decide (0 ≤ x5_1) = true := decide_eq_true c4
          clear c4
          by_cases c6 : (bt a0 x5_1) = 34
          · rw [if_pos c6] at H
            have c6b0 : ((bt a0 x5_1) == 34) = true := beq_iff_eq.mpr c6
            have c6b1 : ((bt a0 x5_1) != 34) = false := bne_eq_false_iff_eq.mpr c6
            clear c6
            obtain rfl := Option.some.inj H
            have p5 : 0 ≤ (x5_1 : Int) := of_decide_eq_true (by first | (with_reducible assumption) | assumption)
            have q5 : x5_1 < (a0.size : Int) := of_decide_eq_true (by first | (with_reducible assumption) | assumption)
            have hx5 := bt_at a0 x5_1
            replace p5 := eq_true p5
            replace q5 := eq_true q5
            go_wp2
            go_ret
            exact ⟨by first | rfl | (simp; done) | (simp [*]; done), by repeat (first | exact Drawn0.refl _ | apply Drawn0.step)⟩
          · rw [if_neg c6] at H
            have c6b0 : ((bt a0 x5_1) == 34) = false := beq_eq_false_iff_ne.mpr c6
            have c6b1 : ((bt a0 x5_1) != 34) = true := bne_iff_ne.mpr c6
            by_cases c8 : (bt a0 x5_1) = 92
            · rw [if_pos c8] at H
              have c8b0 : ((bt a0 x5_1) == 92) = true := beq_iff_eq.mpr c8
              have c8b1 : ((bt a0 x5_1) != 92) = false := bne_eq_false_iff_eq.mpr c8
              clear c8
              have H' := Aside0.mk H
              clear H
              have p5 : 0 ≤ (x5_1 : Int) := of_decide_eq_true (by first | (with_reducible assumption) | assumption)
              have q5 : x5_1 < (a0.size : Int) := of_decide_eq_true (by first | (with_reducible assumption) | assumption)
              have hx5 := bt_at a0 x5_1
              replace p5 := eq_true p5
              replace q5 := eq_true q5
              have p7 : 0 ≤ (x5_1 : Int) := of_decide_eq_true (by first | (with_reducible assumption) | assumption)
              have q7 : x5_1 < (a0.size : Int) := of_decide_eq_true (by first | (with_reducible assumption) | assumption)
              have hx7 := bt_at a0 x5_1
              replace p7 := eq_true p7
              replace q7 := eq_true q7
              go_wp2
              go_roundg k1
              case measure => have := HK1.out; omega
              case rel => exact ⟨(wrap64 ((wrap64 (x5_1 + 1)) + 1)), (by first | rfl | (simp; done) | (simp [*]; done)), H', ⟨by have := HK1.out; omega⟩, by repeat (first | exact Drawn0.refl _ | apply Drawn0.step)⟩
            · rw [if_neg c8] at H
              have c8b0 : ((bt a0 x5_1) == 92) = false := beq_eq_false_iff_ne.mpr c8
              have c8b1 : ((bt a0 x5_1) != 92) = true := bne_iff_ne.mpr c8
              have H' := Aside0.mk H
              clear H
              have p5 : 0 ≤ (x5_1 : Int) := of_decide_eq_true (by first | (with_reducible assumption) | assumption)
              have q5 : x5_1 < (a0.size : Int) := of_decide_eq_true (by first | (with_reducible assumption) | assumption)
              have hx5 := bt_at a0 x5_1
              replace p5 := eq_true p5
              replace q5 := eq_true q5
              have p7 : 0 ≤ (x5_1 : Int) := of_decide_eq_true (by first | (with_reducible assumption) | assumption)
              have q7 : x5_1 < (a0.size : Int) := of_decide_eq_true (by first | (with_reducible assumption) | assumption)
              have hx7 := bt_at a0 x5_1
              replace p7 := eq_true p7
              replace q7 := eq_true q7
              go_wp2
              go_roundg k1
              case measure => have := HK1.out; omega
              case rel => exact ⟨(wrap64 (x5_1 + 1)), (by first | rfl | (simp; done) | (simp [*]; done)), H', ⟨by have := HK1.out; omega⟩, by repeat (first | exact Drawn0.refl _ | apply Drawn0.step)⟩
        · rw [if_neg c4] at H
          exact absurd H (by simp)
      · rw [if_neg c3] at H
        have c3b0 : decide (x5_1 < (a0.size : Int)) = false := decide_eq_false c3
        clear c3
        obtain rfl := Option.some.inj H
        go_wp2
        go_ret
        exact ⟨by first | rfl | (simp; done) | (simp [*]; done), by repeat (first | exact Drawn0.refl _ | apply Drawn0.step)⟩
end Go.Proofs.YtieompfmhnpnaaaGreat.H
namespace Go.Proofs.YtieompfmhnpnaaaGreat.H
open Go.RowKit Go.Proofs.YtieompfmhnpnaaaGreatW.PrintWords Go.Proofs.YtieompfmhnpnaaaGreatW.PrintLast Go.Proofs.YtieompfmhnpnaaaGreatW.PrintMore
attribute [local go_sem] max2_int min2_int max_two min_two max_three min_three max_four min_four
set_option linter.unusedVariables false
set_option linter.unusedSimpArgs false
def missiveref09_Pieces.l0 : Nat → ByteArray → List ByteArray → Int → Int → Option (List ByteArray)
  | 0, _, _, _, _ => none
  | k + 1, x0, x3, x4, x5 => if x5 < (x0.size : Int) then (if 0 ≤ x5 then (if (bt x0 x5) = 34 then ((missiveref09_quoted.f k x0 x5).bind fun t154 => (missiveref09_Pieces.l0 k x0 x3 x4 t154)) else (if (bt x0 x5) = 59 then (if 0 ≤ x4 then (if x4 ≤ x5 then (if x5 ≤ (x0.size : Int) then (if x3.length < 8796093022208 then (missiveref09_Pieces.l0 k x0 (x3 ++ [x0.extract (x4 : Int).toNat (x5 : Int).toNat]) (wrap64 (x5 + 1)) (wrap64 (x5 + 1))) else (none)) else (none)) else (none)) else (none)) else (missiveref09_Pieces.l0 k x0 x3 x4 (wrap64 (x5 + 1))))) else (none)) else (if 0 ≤ x4 then (if x4 ≤ (x0.size : Int) then (if x3.length < 8796093022208 then (some (x3 ++ [x0.extract (x4 : Int).toNat x0.size])) else (none)) else (none)) else (none))
def missiveref09_Pieces.f (k : Nat) (a0 : ByteArray) : Option (List ByteArray) := missiveref09_Pieces.l0 k a0 ([] : List ByteArray) 0 0
theorem missiveref09_Pieces.mono_l : ∀ k, (∀ y0 y1 y2 y3, LeO (missiveref09_Pieces.l0 k y0 y1 y2 y3) (missiveref09_Pieces.l0 (k + 1) y0 y1 y2 y3))
  | 0 => fun _ _ _ _ r h => by simp [missiveref09_Pieces.l0] at h
  | k + 1 => by
    have ih0 := missiveref09_Pieces.mono_l k
    · intro y0 y1 y2 y3
      unfold missiveref09_Pieces.l0
      repeat' first
      | (with_reducible exact ih0 _ _ _ _)
      | (with_reducible exact missiveref09_quoted.mono _ _ _)
      | (with_reducible exact LeO.refl _)
      | (with_reducible exact LeO.none _)
      | (with_reducible refine LeO.ite ?_ ?_)
      | (with_reducible refine LeO.bind ?_ (fun _ => ?_))
      | exact ih0 _ _ _ _
      | exact missiveref09_quoted.mono _ _ _
      | exact LeO.none _
      | refine LeO.ite ?_ ?_
      | refine LeO.bind ?_ (fun _ => ?_)
theorem missiveref09_Pieces.mono : ∀ a0 k, LeO (missiveref09_Pieces.f k a0) (missiveref09_Pieces.f (k + 1) a0) := by
  intro a0 k
  have ih0 := missiveref09_Pieces.mono_l k
  unfold missiveref09_Pieces.f
  repeat' first
      | (with_reducible exact ih0 _ _ _ _)
      | (with_reducible exact missiveref09_quoted.mono _ _ _)
      | (with_reducible exact LeO.refl _)
      | (with_reducible exact LeO.none _)
      | (with_reducible refine LeO.ite ?_ ?_)
      | (with_reducible refine LeO.bind ?_ (fun _ => ?_))
      | exact ih0 _ _ _ _
      | exact missiveref09_quoted.mono _ _ _
      | exact LeO.none _
      | refine LeO.ite ?_ ?_
      | refine LeO.bind ?_ (fun _ => ?_)
end Go.Proofs.YtieompfmhnpnaaaGreat.H
namespace Go.Proofs.YtieompfmhnpnaaaGreat.H
open Go.RowKit Go.Proofs.YtieompfmhnpnaaaGreatW.PrintWords Go.Proofs.YtieompfmhnpnaaaGreatW.PrintLast Go.Proofs.YtieompfmhnpnaaaGreatW.PrintMore
attribute [local go_sem] max2_int min2_int max_two min_two max_three min_three max_four min_four
set_option linter.unusedVariables false
set_option linter.unusedSimpArgs false
def missiveref01_White.f (a0 : Int) : Option (Bool) := if a0 = 9 then (some true) else (if a0 = 10 then (some true) else (if a0 = 13 then (some true) else (some (a0 == 32))))
set_option maxHeartbeats 8000000 in
set_option maxRecDepth 100000 in
theorem missiveref01_White.calls (a0 : Int) (r : Bool) (w : World) (h : missiveref01_White.f a0 = some r) :
    Calls Tryz.prog 78 #[.int .u8 a0] w fun e w' => e = .returned (.bool r) ∧ Drawn0 w w' := by
  have H : (if a0 = 9 then (some true) else (if a0 = 10 then (some true) else (if a0 = 13 then (some true) else (some (a0 == 32))))) = some r := h
  clear h
  by_cases c2 : a0 = 9
  · rw [if_pos c2] at H
    have c2b0 : (a0 == 9) = true := beq_iff_eq.mpr c2
    have c2b1 : (a0 != 9) = false := bne_eq_false_iff_eq.mpr c2
    clear c2
    obtain rfl := Option.some.inj H
    go_enter Tryz.func78, Tryz.ntmps78
    go_wp2
    go_ret
    exact ⟨by first | rfl | (simp; done) | (simp [*]; done), by repeat (first | exact Drawn0.refl _ | apply Drawn0.step)⟩
  · rw [if_neg c2] at H
    have c2b0 : (a0 == 9) = false := beq_eq_false_iff_ne.mpr c2
    have c2b1 : (a0 != 9) = true := bne_iff_ne.mpr c2
    by_cases c3 : a0 = 10
    · rw [if_pos c3] at H
      have c3b0 : (a0 == 10) = true := beq_iff_eq.mpr c3
      have c3b1 : (a0 != 10) = false := bne_eq_false_iff_eq.mpr c3
      clear c3
      obtain rfl := Option.some.inj H
      go_enter Tryz.func78, Tryz.ntmps78
      go_wp2
      go_ret
      exact ⟨by first | rfl | (simp; done) | (simp [*]; done), by repeat (first | exact Drawn0.refl _ | apply Drawn0.step)⟩
    · rw [if_neg c3] at H
      have c3b0 : (a0 == 10) = false := beq_eq_false_iff_ne.mpr c3
      have c3b1 : (a0 != 10) = true := bne_iff_ne.mpr c3
      by_cases c4 : a0 = 13
      · rw [if_pos c4] at H
        have c4b0 : (a0 == 13) = true := beq_iff_eq.mpr c4
        have c4b1 : (a0 != 13) = false := bne_eq_false_iff_eq.mpr c4
        clear c4
        obtain rfl := Option.some.inj H
        go_enter Tryz.func78, Tryz.ntmps78
        go_wp2
        go_ret
        exact ⟨by first | rfl | (simp; done) | (simp [*]; done), by repeat (first | exact Drawn0.refl _ | apply Drawn0.step)⟩
      · rw [if_neg c4] at H
        have c4b0 : (a0 == 13) = false := beq_eq_false_iff_ne.mpr c4
        have c4b1 : (a0 != 13) = true := bne_iff_ne.mpr c4
        obtain rfl := Option.some.inj H
        go_enter Tryz.func78, Tryz.ntmps78
        go_wp2
        go_ret
        exact ⟨by first | rfl | (simp; done) | (simp [*]; done), by repeat (first | exact Drawn0.refl _ | apply Drawn0.step)⟩
mutual
def missiveref01_Trim.j1 : Nat → ByteArray → Int → Option (ByteArray)
  | 0, _, _ => none
  | k + 1, x0, x3 => missiveref01_Trim.l1 k x0 x3 (x0.size : Int)
def missiveref01_Trim.l1 : Nat → ByteArray → Int → Int → Option (ByteArray)
  | 0, _, _, _ => none
  | k + 1, x0, x3, x4 => if x4 > x3 then (if 0 ≤ (wrap64 (x4 - 1)) then (if (wrap64 (x4 - 1)) < (x0.size : Int) then ((missiveref01_White.f (bt x0 (wrap64 (x4 - 1)))).bind fun t159 => (if t159 = true then (missiveref01_Trim.l1 k x0 x3 (wrap64 (x4 - 1))) else (if 0 ≤ x3 then (if x3 ≤ x4 then (if x4 ≤ (x0.size : Int) then (some (x0.extract (x3 : Int).toNat (x4 : Int).toNat)) else (none)) else (none)) else (none)))) else (none)) else (none)) else (if 0 ≤ x3 then (if x3 ≤ x4 then (if x4 ≤ (x0.size : Int) then (some (x0.extract (x3 : Int).toNat (x4 : Int).toNat)) else (none)) else (none)) else (none))
def missiveref01_Trim.l0 : Nat → ByteArray → Int → Option (ByteArray)
  | 0, _, _ => none
  | k + 1, x0, x3 => if x3 < (x0.size : Int) then (if 0 ≤ x3 then ((missiveref01_White.f (bt x0 x3)).bind fun t158 => (if t158 = true then (missiveref01_Trim.l0 k x0 (wrap64 (x3 + 1))) else (missiveref01_Trim.j1 k x0 x3))) else (none)) else (missiveref01_Trim.j1 k x0 x3)
end
def missiveref01_Trim.f (k : Nat) (a0 : ByteArray) : Option (ByteArray) := missiveref01_Trim.l0 k a0 0
theorem missiveref01_Trim.mono_l : ∀ k, (∀ y0 y1, LeO (missiveref01_Trim.j1 k y0 y1) (missiveref01_Trim.j1 (k + 1) y0 y1)) ∧ (∀ y0 y1 y2, LeO (missiveref01_Trim.l1 k y0 y1 y2) (missiveref01_Trim.l1 (k + 1) y0 y1 y2)) ∧ (∀ y0 y1, LeO (missiveref01_Trim.l0 k y0 y1) (missiveref01_Trim.l0 (k + 1) y0 y1))
  | 0 => ⟨fun _ _ r h => by simp [missiveref01_Trim.j1] at h, fun _ _ _ r h => by simp [missiveref01_Trim.l1] at h, fun _ _ r h => by simp [missiveref01_Trim.l0] at h⟩
  | k + 1 => by
    obtain ⟨ih0, ih1, ih2⟩ := missiveref01_Trim.mono_l k
    refine ⟨?_, ?_, ?_⟩
    · intro y0 y1
      unfold missiveref01_Trim.j1
      repeat' first
      | (with_reducible exact ih0 _ _)
      | (with_reducible exact ih1 _ _ _)
      | (with_reducible exact ih2 _ _)
      | (with_reducible exact LeO.refl _)
      | (with_reducible exact LeO.none _)
      | (with_reducible refine LeO.ite ?_ ?_)
      | (with_reducible refine LeO.bind ?_ (fun _ => ?_))
      | exact ih0 _ _
      | exact ih1 _ _ _
      | exact ih2 _ _
      | exact LeO.none _
      | refine LeO.ite ?_ ?_
      | refine LeO.bind ?_ (fun _ => ?_)
    · intro y0 y1 y2
      unfold missiveref01_Trim.l1
      repeat' first
      | (with_reducible exact ih0 _ _)
      | (with_reducible exact ih1 _ _ _)
      | (with_reducible exact ih2 _ _)
      | (with_reducible exact LeO.refl _)
      | (with_reducible exact LeO.none _)
      | (with_reducible refine LeO.ite ?_ ?_)
      | (with_reducible refine LeO.bind ?_ (fun _ => ?_))
      | exact ih0 _ _
      | exact ih1 _ _ _
      | exact ih2 _ _
      | exact LeO.none _
      | refine LeO.ite ?_ ?_
      | refine LeO.bind ?_ (fun _ => ?_)
    · intro y0 y1
      unfold missiveref01_Trim.l0
      repeat' first
      | (with_reducible exact ih0 _ _)
      | (with_reducible exact ih1 _ _ _)
      | (with_reducible exact ih2 _ _)
      | (with_reducible exact LeO.refl _)
      | (with_reducible exact LeO.none _)
      | (with_reducible refine LeO.ite ?_ ?_)
      | (with_reducible refine LeO.bind ?_ (fun _ => ?_))
      | exact ih0 _ _
      | exact ih1 _ _ _
      | exact ih2 _ _
      | exact LeO.none _
      | refine LeO.ite ?_ ?_
      | refine LeO.bind ?_ (fun _ => ?_)
theorem missiveref01_Trim.mono : ∀ a0 k, LeO (missiveref01_Trim.f k a0) (missiveref01_Trim.f (k + 1) a0) := by
  intro a0 k
  obtain ⟨ih0, ih1, ih2⟩ := missiveref01_Trim.mono_l k
  unfold missiveref01_Trim.f
  repeat' first
      | (with_reducible exact ih0 _ _)
      | (with_reducible exact ih1 _ _ _)
      | (with_reducible exact ih2 _ _)
      | (with_reducible exact LeO.refl _)
      | (with_reducible exact LeO.none _)
      | (with_reducible refine LeO.ite ?_ ?_)
      | (with_reducible refine LeO.bind ?_ (fun _ => ?_))
      | exact ih0 _ _
      | exact ih1 _ _ _
      | exact ih2 _ _
      | exact LeO.none _
      | refine LeO.ite ?_ ?_
      | refine LeO.bind ?_ (fun _ => ?_)
set_option maxHeartbeats 8000000 in
set_option maxRecDepth 100000 in
theorem missiveref01_Trim.calls (k : Nat) (a0 : ByteArray) (r : ByteArray) (w : World) (h : missiveref01_Trim.f k a0 = some r) :
    Calls Tryz.prog 45 #[.string a0] w fun e w' => e = .returned (.string r) ∧ Drawn0 w w' := by
  have H : (missiveref01_Trim.l0 k a0 0) = some r := h
  clear h
  have HC2 := Aside0.mk H
  clear H
  go_enter Tryz.func45, Tryz.ntmps45
  go_upto_block 0 with (fail)
  go_cut [3] (fun v3 wc => ∃ (kq : Nat) (x3_1 : Int), v3 = .int .i64 x3_1 ∧ Aside0 (missiveref01_Trim.j1 kq a0 x3_1 = some r) ∧ Aside0 (kq ≤ k) ∧ Drawn0 w wc)
  case first =>
    have H := HC2.out
    clear HC2
    have H' := Aside0.mk H
    clear H
    go_wp2
    go_loopg [3] k (fun kq v3 w' => ∃ (x3_1 : Int), v3 = .int .i64 x3_1 ∧ Aside0 (missiveref01_Trim.l0 kq a0 x3_1 = some r) ∧ Aside0 (kq ≤ k) ∧ Drawn0 w w')
    case atStart => exact ⟨(0), (by first | rfl | (simp; done) | (simp [*]; done)), H', ⟨Nat.le_refl _⟩, by repeat (first | exact Drawn0.refl _ | apply Drawn0.step)⟩
    case round =>
      clear H'
      try clear p2
      obtain ⟨x3_1, rfl, HA, HK1, ⟨m1, rfl⟩⟩ := hrel
      cases gk with
      | zero => exact absurd HA.out (by simp [missiveref01_Trim.l0])
      | succ k1 =>
        have H := HA.out
        clear HA
        simp only [missiveref01_Trim.l0] at H
        by_cases c3 : x3_1 < (a0.size : Int)
        · rw [if_pos c3] at H
          have c3b0 : decide (x3_1 < (a0.size : Int)) = true := decide_eq_true c3
          clear c3
          (first | rw [c3b0] | (simp only [i64_w, i32_w]; rw [c3b0]) | skip)
          by_cases c4 : 0 ≤ x3_1
          · rw [if_pos c4] at H
            have c4b0 : decide (0 ≤ x3_1) = true := decide_eq_true c4
            clear c4
            replace H := Option.bind_eq_some_iff.mp H
            obtain ⟨t158, A60, H⟩ := H
            replace H : (if t158 = true then (missiveref01_Trim.l0 k1 a0 (wrap64 (x3_1 + 1))) else (missiveref01_Trim.j1 k1 a0 x3_1)) = some r := H
            have A6 := Aside0.mk A60
            clear A60
            by_cases c7 : t158 = true
            · subst c7
              have H1 : (missiveref01_Trim.l0 k1 a0 (wrap64 (x3_1 + 1))) = some r := by rw [if_pos rfl] at H; exact H
              clear H
              have H := H1
              clear H1
              have H' := Aside0.mk H
              clear H
              have p5 : 0 ≤ (x3_1 : Int) := of_decide_eq_true (by first | (with_reducible assumption) | assumption)
              have q5 : x3_1 < (a0.size : Int) := of_decide_eq_true (by first | (with_reducible assumption) | assumption)
              have hx5 := bt_at a0 x3_1
              replace p5 := eq_true p5
              replace q5 := eq_true q5
              go_wp2_with (first | (go_at_call 78; (with_reducible refine (missiveref01_White.calls (bt a0 x3_1) true _ A6.out).mono ?_); rintro e w' ⟨rfl, ⟨nd, rfl⟩⟩))
              go_roundg k1
              case measure => have := HK1.out; omega
              case rel => exact ⟨(wrap64 (x3_1 + 1)), (by first | rfl | (simp; done) | (simp [*]; done)), H', ⟨by have := HK1.out; omega⟩, by repeat (first | exact Drawn0.refl _ | apply Drawn0.step)⟩
            · replace c7 := Bool.eq_false_iff.mpr c7
              subst c7
              have H1 : (missiveref01_Trim.j1 k1 a0 x3_1) = some r := by rw [if_neg (show ¬ (false = true) by decide)] at H; exact H
              clear H
              have H := H1
              clear H1
              have H' := Aside0.mk H
              clear H
              have p5 : 0 ≤ (x3_1 : Int) := of_decide_eq_true (by first | (with_reducible assumption) | assumption)
              have q5 : x3_1 < (a0.size : Int) := of_decide_eq_true (by first | (with_reducible assumption) | assumption)
              have hx5 := bt_at a0 x3_1
              replace p5 := eq_true p5
              replace q5 := eq_true q5
              go_wp2_with (first | (go_at_call 78; (with_reducible refine (missiveref01_White.calls (bt a0 x3_1) false _ A6.out).mono ?_); rintro e w' ⟨rfl, ⟨nd, rfl⟩⟩))
              go_meet
              case rel => exact ⟨_, (x3_1), (by first | rfl | (simp; done) | (simp [*]; done)), H', ⟨by have := HK1.out; first | omega | exact Nat.le_refl _⟩, by repeat (first | exact Drawn0.refl _ | apply Drawn0.step)⟩
          · rw [if_neg c4] at H
            exact absurd H (by simp)
        · rw [if_neg c3] at H
          have c3b0 : decide (x3_1 < (a0.size : Int)) = false := decide_eq_false c3
          clear c3
          (first | rw [c3b0] | (simp only [i64_w, i32_w]; rw [c3b0]) | skip)
          have H' := Aside0.mk H
          clear H
          go_wp2
          go_meet
          case rel => exact ⟨_, (x3_1), (by first | rfl | (simp; done) | (simp [*]; done)), H', ⟨by have := HK1.out; first | omega | exact Nat.le_refl _⟩, by repeat (first | exact Drawn0.refl _ | apply Drawn0.step)⟩
  case rest =>
    clear HC2
    try clear p2
    try clear c3
    try clear c3b0
    try clear c4
    try clear c4b0
    try clear p5
    try clear q5
    try clear hx5
    try clear p6
    try clear c7
    try clear p2
    try clear p5
    try clear q5
    obtain ⟨kq, x3_1, rfl, HA, HJ1, ⟨mc1, rfl⟩⟩ := hcut
    cases kq with
    | zero => exact absurd HA.out (by simp [missiveref01_Trim.j1])
    | succ kj1 =>
      have H := HA.out
      clear HA
      simp only [missiveref01_Trim.j1] at H
      have H' := Aside0.mk H
      clear H
      go_wp2
      go_loopg [4] kj1 (fun kq v4 w' => ∃ (x4_2 : Int), v4 = .int .i64 x4_2 ∧ Aside0 (missiveref01_Trim.l1 kq a0 x3_1 x4_2 = some r) ∧ Aside0 (kq ≤ kj1) ∧ Drawn0 w w')
      case atStart => exact ⟨((a0.size : Int)), (by first | rfl | (simp; done) | (simp [*]; done)), H', ⟨Nat.le_refl _⟩, by repeat (first | exact Drawn0.refl _ | apply Drawn0.step)⟩
      case round =>
        clear H'
        try clear c1
        try clear p2
        try clear c3
        try clear c3b0
        try clear c4
        try clear c4b0
        try clear p5
        try clear q5
        try clear hx5
        try clear p6
        try clear c7
        try clear p2
        try clear p5
        try clear p6
        try clear q5
        obtain ⟨x4_2, rfl, HA, HK2, ⟨m2, rfl⟩⟩ := hrel
        cases gk with
        | zero => exact absurd HA.out (by simp [missiveref01_Trim.l1])
        | succ k2 =>
          have H := HA.out
          clear HA
          simp only [missiveref01_Trim.l1] at H
          by_cases c8 : x4_2 > x3_1
          · rw [if_pos c8] at H
            have c8b0 : decide (x3_1 < x4_2) = true := decide_eq_true c8
            clear c8
            obtain ⟨ji9, hji9⟩ : ∃ j_ : Int, (wrap64 (x4_2 - 1)) = j_ := ⟨_, rfl⟩
            replace H : (if 0 ≤ (ji9) then (if (ji9) < (a0.size : Int) then ((missiveref01_White.f (bt a0 (ji9))).bind fun t159 => (if t159 = true then (missiveref01_Trim.l1 k2 a0 x3_1 ji9) else (if 0 ≤ x3_1 then (if x3_1 ≤ x4_2 then (if x4_2 ≤ (a0.size : Int) then (some (a0.extract (x3_1 : Int).toNat (x4_2 : Int).toNat)) else (none)) else (none)) else (none)))) else (none)) else (none)) = some r := by first | (rw [hji9] at H; exact H) | (simp only [hji9] at H ⊢; exact H)
            have hji9w : (IntKind.i64.wrap (x4_2 - 1)) = ji9 := (i64_w _).trans hji9
            by_cases c10 : 0 ≤ (ji9)
            · rw [if_pos c10] at H
              have c10b0 : decide (0 ≤ (ji9)) = true := decide_eq_true c10
              clear c10
              by_cases c11 : (ji9) < (a0.size : Int)
              · rw [if_pos c11] at H
                have c11b0 : decide ((ji9) < (a0.size : Int)) = true := decide_eq_true c11
                clear c11
                replace H := Option.bind_eq_some_iff.mp H
                obtain ⟨t159, A130, H⟩ := H
                replace H : (if t159 = true then (missiveref01_Trim.l1 k2 a0 x3_1 ji9) else (if 0 ≤ x3_1 then (if x3_1 ≤ x4_2 then (if x4_2 ≤ (a0.size : Int) then (some (a0.extract (x3_1 : Int).toNat (x4_2 : Int).toNat)) else (none)) else (none)) else (none))) = some r := H
                have A13 := Aside0.mk A130
                clear A130
                by_cases c14 : t159 = true
                · subst c14
                  have H1 : (missiveref01_Trim.l1 k2 a0 x3_1 ji9) = some r := by rw [if_pos rfl] at H; exact H
                  clear H
                  have H := H1
                  clear H1
                  have H' := Aside0.mk H
                  clear H
                  have p12 : 0 ≤ ((ji9) : Int) := of_decide_eq_true (by first | (with_reducible assumption) | assumption)
                  have q12 : (ji9) < (a0.size : Int) := of_decide_eq_true (by first | (with_reducible assumption) | assumption)
                  have hx12 := bt_at a0 (ji9)
                  replace p12 := eq_true p12
                  replace q12 := eq_true q12
                  go_wp2_with (first | (go_at_call 78; (with_reducible refine (missiveref01_White.calls (bt a0 (ji9)) true _ A13.out).mono ?_); rintro e w' ⟨rfl, ⟨nd, rfl⟩⟩))
                  go_roundg k2
                  case measure => have := HJ1.out; have := HK2.out; omega
                  case rel => exact ⟨(ji9), (by first | rfl | (simp; done) | (simp only [← hji9] <;> (first | rfl | simp)) | (simp [*]; done)), H', ⟨by have := HJ1.out; have := HK2.out; omega⟩, by repeat (first | exact Drawn0.refl _ | apply Drawn0.step)⟩
                · replace c14 := Bool.eq_false_iff.mpr c14
                  subst c14
                  have H1 : (if 0 ≤ x3_1 then (if x3_1 ≤ x4_2 then (if x4_2 ≤ (a0.size : Int) then (some (a0.extract (x3_1 : Int).toNat (x4_2 : Int).toNat)) else (none)) else (none)) else (none)) = some r := by rw [if_neg (show ¬ (false = true) by decide)] at H; exact H
                  clear H
                  have H := H1
                  clear H1
                  by_cases c15 : 0 ≤ x3_1
                  · rw [if_pos c15] at H
                    have c15b0 := eq_true c15
                    have c15b1 : decide (0 ≤ x3_1) = true := decide_eq_true c15
                    clear c15
                    by_cases c16 : x3_1 ≤ x4_2
                    · rw [if_pos c16] at H
                      have c16b0 := eq_true c16
                      have c16b1 : decide (x3_1 ≤ x4_2) = true := decide_eq_true c16
                      clear c16
                      by_cases c17 : x4_2 ≤ (a0.size : Int)
                      · rw [if_pos c17] at H
                        have c17b0 := eq_true c17
                        have c17b1 : decide (x4_2 ≤ (a0.size : Int)) = true := decide_eq_true c17
                        clear c17
                        obtain rfl := Option.some.inj H
                        have p12 : 0 ≤ ((ji9) : Int) := of_decide_eq_true (by first | (with_reducible assumption) | assumption)
                        have q12 : (ji9) < (a0.size : Int) := of_decide_eq_true (by first | (with_reducible assumption) | assumption)
                        have hx12 := bt_at a0 (ji9)
                        replace p12 := eq_true p12
                        replace q12 := eq_true q12
                        go_wp2_with (first | (go_at_call 78; (with_reducible refine (missiveref01_White.calls (bt a0 (ji9)) false _ A13.out).mono ?_); rintro e w' ⟨rfl, ⟨nd, rfl⟩⟩))
                        go_ret
                        exact ⟨by first | rfl | (simp; done) | (simp only [← hji9] <;> (first | rfl | simp)) | (simp [*]; done), by repeat (first | exact Drawn0.refl _ | apply Drawn0.step)⟩
                      · rw [if_neg c17] at H
                        exact absurd H (by simp)
                    · rw [if_neg c16] at H
                      exact absurd H (by simp)
                  · rw [if_neg c15] at H
                    exact absurd H (by simp)
              · rw [if_neg c11] at H
                exact absurd H (by simp)
            · rw [if_neg c10] at H
              exact absurd H (by simp)
          · rw [if_neg c8] at H
            have c8b0 : decide (x3_1 < x4_2) = false := decide_eq_false c8
            clear c8
            by_cases c18 : 0 ≤ x3_1
            · rw [if_pos c18] at H
              have c18b0 := eq_true c18
              have c18b1 : decide (0 ≤ x3_1) = true := decide_eq_true c18
              clear c18
              by_cases c19 : x3_1 ≤ x4_2
              · rw [if_pos c19] at H
                have c19b0 := eq_true c19
                have c19b1 : decide (x3_1 ≤ x4_2) = true := decide_eq_true c19
                clear c19
                by_cases c20 : x4_2 ≤ (a0.size : Int)
                · rw [if_pos c20] at H
                  have c20b0 := eq_true c20
                  have c20b1 : decide (x4_2 ≤ (a0.size : Int)) = true := decide_eq_true c20
                  clear c20
                  obtain rfl := Option.some.inj H
                  go_wp2
                  go_ret
                  exact ⟨by first | rfl | (simp; done) | (simp [*]; done), by repeat (first | exact Drawn0.refl _ | apply Drawn0.step)⟩
                · rw [if_neg c20] at H
                  exact absurd H (by simp)
              · rw [if_neg c19] at H
                exact absurd H (by simp)
            · rw [if_neg c18] at H
              exact absurd H (by simp)
end Go.Proofs.YtieompfmhnpnaaaGreat.H
namespace Go.Proofs.YtieompfmhnpnaaaGreat.H
open Go.RowKit Go.Proofs.YtieompfmhnpnaaaGreatW.PrintWords Go.Proofs.YtieompfmhnpnaaaGreatW.PrintLast Go.Proofs.YtieompfmhnpnaaaGreatW.PrintMore
attribute [local go_sem] max2_int min2_int max_two min_two max_three min_three max_four min_four
set_option linter.unusedVariables false
set_option linter.unusedSimpArgs false
def missiveref09_value.l0 : Nat → ByteArray → ByteArray → Int → Option (ByteArray × Bool)
  | 0, _, _, _ => none
  | k + 1, x0, x4, x5 => if x5 < (x0.size : Int) then (if 0 ≤ x5 then (if (bt x0 x5) = 34 then (some (x4, (x5 == (wrap64 ((x0.size : Int) - 1))))) else (if (bt x0 x5) = 92 then (if (wrap64 (x5 + 1)) < (x0.size : Int) then (if 0 ≤ (wrap64 (x5 + 1)) then (if (wrap64 (x5 + 1)) ≤ (wrap64 ((wrap64 (x5 + 1)) + 1)) then (if (wrap64 ((wrap64 (x5 + 1)) + 1)) ≤ (x0.size : Int) then (if x4.size + (x0.extract ((wrap64 (x5 + 1)) : Int).toNat ((wrap64 ((wrap64 (x5 + 1)) + 1)) : Int).toNat).size ≤ 9223372036854775807 then (missiveref09_value.l0 k x0 (x4 ++ (x0.extract ((wrap64 (x5 + 1)) : Int).toNat ((wrap64 ((wrap64 (x5 + 1)) + 1)) : Int).toNat)) (wrap64 ((wrap64 (x5 + 1)) + 1))) else (none)) else (none)) else (none)) else (none)) else (if x5 ≤ (wrap64 (x5 + 1)) then (if (wrap64 (x5 + 1)) ≤ (x0.size : Int) then (if x4.size + (x0.extract (x5 : Int).toNat ((wrap64 (x5 + 1)) : Int).toNat).size ≤ 9223372036854775807 then (missiveref09_value.l0 k x0 (x4 ++ (x0.extract (x5 : Int).toNat ((wrap64 (x5 + 1)) : Int).toNat)) (wrap64 (x5 + 1))) else (none)) else (none)) else (none))) else (if x5 ≤ (wrap64 (x5 + 1)) then (if (wrap64 (x5 + 1)) ≤ (x0.size : Int) then (if x4.size + (x0.extract (x5 : Int).toNat ((wrap64 (x5 + 1)) : Int).toNat).size ≤ 9223372036854775807 then (missiveref09_value.l0 k x0 (x4 ++ (x0.extract (x5 : Int).toNat ((wrap64 (x5 + 1)) : Int).toNat)) (wrap64 (x5 + 1))) else (none)) else (none)) else (none)))) else (none)) else (some ((⟨#[]⟩ : ByteArray), false))
def missiveref09_value.f (k : Nat) (a0 : ByteArray) : Option (ByteArray × Bool) := if a0.toList = ([] : List UInt8) then (some ((⟨#[]⟩ : ByteArray), false)) else (if 0 < (a0.size : Int) then (if (bt a0 0) = 34 then (missiveref09_value.l0 k a0 (⟨#[]⟩ : ByteArray) 1) else ((missiveref09_Printable.f k a0).bind fun t160 => (if t160 = true then ((missiveref09_has.f k a0 (⟨#[34]⟩ : ByteArray)).bind fun t161 => (some (a0, !t161))) else (some (a0, false))))) else (none))
theorem missiveref09_value.mono_l : ∀ k, (∀ y0 y1 y2, LeO (missiveref09_value.l0 k y0 y1 y2) (missiveref09_value.l0 (k + 1) y0 y1 y2))
  | 0 => fun _ _ _ r h => by simp [missiveref09_value.l0] at h
  | k + 1 => by
    have ih0 := missiveref09_value.mono_l k
    · intro y0 y1 y2
      unfold missiveref09_value.l0
      repeat' first
      | (with_reducible exact ih0 _ _ _)
      | (with_reducible exact missiveref09_Printable.mono _ _)
      | (with_reducible exact missiveref09_has.mono _ _ _)
      | (with_reducible exact LeO.refl _)
      | (with_reducible exact LeO.none _)
      | (with_reducible refine LeO.ite ?_ ?_)
      | (with_reducible refine LeO.bind ?_ (fun _ => ?_))
      | exact ih0 _ _ _
      | exact missiveref09_Printable.mono _ _
      | exact missiveref09_has.mono _ _ _
      | exact LeO.none _
      | refine LeO.ite ?_ ?_
      | refine LeO.bind ?_ (fun _ => ?_)
theorem missiveref09_value.mono : ∀ a0 k, LeO (missiveref09_value.f k a0) (missiveref09_value.f (k + 1) a0) := by
  intro a0 k
  have ih0 := missiveref09_value.mono_l k
  unfold missiveref09_value.f
  repeat' first
      | (with_reducible exact ih0 _ _ _)
      | (with_reducible exact missiveref09_Printable.mono _ _)
      | (with_reducible exact missiveref09_has.mono _ _ _)
      | (with_reducible exact LeO.refl _)
      | (with_reducible exact LeO.none _)
      | (with_reducible refine LeO.ite ?_ ?_)
      | (with_reducible refine LeO.bind ?_ (fun _ => ?_))
      | exact ih0 _ _ _
      | exact missiveref09_Printable.mono _ _
      | exact missiveref09_has.mono _ _ _
      | exact LeO.none _
      | refine LeO.ite ?_ ?_
      | refine LeO.bind ?_ (fun _ => ?_)
end Go.Proofs.YtieompfmhnpnaaaGreat.H
namespace Go.Proofs.YtieompfmhnpnaaaGreat.H
open Go.RowKit Go.Proofs.YtieompfmhnpnaaaGreatW.PrintWords Go.Proofs.YtieompfmhnpnaaaGreatW.PrintLast Go.Proofs.YtieompfmhnpnaaaGreatW.PrintMore
attribute [local go_sem] max2_int min2_int max_two min_two max_three min_three max_four min_four
set_option linter.unusedVariables false
set_option linter.unusedSimpArgs false
mutual
def missiveref09_Quote.l0 : Nat → List (S25) → ByteArray → Int → Option (ByteArray)
  | 0, _, _, _ => none
  | k + 1, x1, x5, x6 => if x6 < (x1.length : Int) then (if 0 ≤ x6 then ((missiveref09_Token.f k ((rd_T25 x1 x6).f0)).bind fun t184 => (if t184 = true then (if x5.size + 2 ≤ 9223372036854775807 then (if (x5 ++ (⟨#[59, 32]⟩ : ByteArray)).size + ((rd_T25 x1 x6).f0).size ≤ 9223372036854775807 then (if ((x5 ++ (⟨#[59, 32]⟩ : ByteArray)) ++ ((rd_T25 x1 x6).f0)).size + 1 ≤ 9223372036854775807 then ((missiveref09_Token.f k ((rd_T25 x1 x6).f1)).bind fun t185 => (if t185 = true then (if (((x5 ++ (⟨#[59, 32]⟩ : ByteArray)) ++ ((rd_T25 x1 x6).f0)) ++ (⟨#[61]⟩ : ByteArray)).size + ((rd_T25 x1 x6).f1).size ≤ 9223372036854775807 then (missiveref09_Quote.l0 k x1 ((((x5 ++ (⟨#[59, 32]⟩ : ByteArray)) ++ ((rd_T25 x1 x6).f0)) ++ (⟨#[61]⟩ : ByteArray)) ++ ((rd_T25 x1 x6).f1)) (wrap64 (x6 + 1))) else (none)) else (if (((x5 ++ (⟨#[59, 32]⟩ : ByteArray)) ++ ((rd_T25 x1 x6).f0)) ++ (⟨#[61]⟩ : ByteArray)).size + 1 ≤ 9223372036854775807 then (missiveref09_Quote.l1 k x1 ((((x5 ++ (⟨#[59, 32]⟩ : ByteArray)) ++ ((rd_T25 x1 x6).f0)) ++ (⟨#[61]⟩ : ByteArray)) ++ (⟨#[34]⟩ : ByteArray)) x6 0 ((rd_T25 x1 x6).f0) ((rd_T25 x1 x6).f1)) else (none)))) else (none)) else (none)) else (none)) else (missiveref09_Quote.l0 k x1 x5 (wrap64 (x6 + 1))))) else (none)) else (some x5)
def missiveref09_Quote.l1 : Nat → List (S25) → ByteArray → Int → Int → ByteArray → ByteArray → Option (ByteArray)
  | 0, _, _, _, _, _, _ => none
  | k + 1, x1, x5, x6, x8, x184000, x184001 => if x8 < (x184001.size : Int) then (if 0 ≤ x8 then (if (bt x184001 x8) = 34 then (if x5.size + 1 ≤ 9223372036854775807 then (if x8 ≤ (wrap64 (x8 + 1)) then (if (wrap64 (x8 + 1)) ≤ (x184001.size : Int) then (if (x5 ++ (⟨#[92]⟩ : ByteArray)).size + (x184001.extract (x8 : Int).toNat ((wrap64 (x8 + 1)) : Int).toNat).size ≤ 9223372036854775807 then (missiveref09_Quote.l1 k x1 ((x5 ++ (⟨#[92]⟩ : ByteArray)) ++ (x184001.extract (x8 : Int).toNat ((wrap64 (x8 + 1)) : Int).toNat)) x6 (wrap64 (x8 + 1)) x184000 x184001) else (none)) else (none)) else (none)) else (none)) else (if (bt x184001 x8) = 92 then (if x5.size + 1 ≤ 9223372036854775807 then (if x8 ≤ (wrap64 (x8 + 1)) then (if (wrap64 (x8 + 1)) ≤ (x184001.size : Int) then (if (x5 ++ (⟨#[92]⟩ : ByteArray)).size + (x184001.extract (x8 : Int).toNat ((wrap64 (x8 + 1)) : Int).toNat).size ≤ 9223372036854775807 then (missiveref09_Quote.l1 k x1 ((x5 ++ (⟨#[92]⟩ : ByteArray)) ++ (x184001.extract (x8 : Int).toNat ((wrap64 (x8 + 1)) : Int).toNat)) x6 (wrap64 (x8 + 1)) x184000 x184001) else (none)) else (none)) else (none)) else (none)) else (if x8 ≤ (wrap64 (x8 + 1)) then (if (wrap64 (x8 + 1)) ≤ (x184001.size : Int) then (if x5.size + (x184001.extract (x8 : Int).toNat ((wrap64 (x8 + 1)) : Int).toNat).size ≤ 9223372036854775807 then (missiveref09_Quote.l1 k x1 (x5 ++ (x184001.extract (x8 : Int).toNat ((wrap64 (x8 + 1)) : Int).toNat)) x6 (wrap64 (x8 + 1)) x184000 x184001) else (none)) else (none)) else (none)))) else (none)) else (if x5.size + 1 ≤ 9223372036854775807 then (missiveref09_Quote.l0 k x1 (x5 ++ (⟨#[34]⟩ : ByteArray)) (wrap64 (x6 + 1))) else (none))
end
def missiveref09_Quote.f (k : Nat) (a0 : ByteArray) (l1 : List (S25)) : Option (ByteArray) := missiveref09_Quote.l0 k l1 a0 0
theorem missiveref09_Quote.mono_l : ∀ k, (∀ y0 y1 y2, LeO (missiveref09_Quote.l0 k y0 y1 y2) (missiveref09_Quote.l0 (k + 1) y0 y1 y2)) ∧ (∀ y0 y1 y2 y3 y4 y5, LeO (missiveref09_Quote.l1 k y0 y1 y2 y3 y4 y5) (missiveref09_Quote.l1 (k + 1) y0 y1 y2 y3 y4 y5))
  | 0 => ⟨fun _ _ _ r h => by simp [missiveref09_Quote.l0] at h, fun _ _ _ _ _ _ r h => by simp [missiveref09_Quote.l1] at h⟩
  | k + 1 => by
    obtain ⟨ih0, ih1⟩ := missiveref09_Quote.mono_l k
    refine ⟨?_, ?_⟩
    · intro y0 y1 y2
      unfold missiveref09_Quote.l0
      repeat' first
      | (with_reducible exact ih0 _ _ _)
      | (with_reducible exact ih1 _ _ _ _ _ _)
      | (with_reducible exact missiveref09_Token.mono _ _)
      | (with_reducible exact LeO.refl _)
      | (with_reducible exact LeO.none _)
      | (with_reducible refine LeO.ite ?_ ?_)
      | (with_reducible refine LeO.bind ?_ (fun _ => ?_))
      | exact ih0 _ _ _
      | exact ih1 _ _ _ _ _ _
      | exact missiveref09_Token.mono _ _
      | exact LeO.none _
      | refine LeO.ite ?_ ?_
      | refine LeO.bind ?_ (fun _ => ?_)
    · intro y0 y1 y2 y3 y4 y5
      unfold missiveref09_Quote.l1
      repeat' first
      | (with_reducible exact ih0 _ _ _)
      | (with_reducible exact ih1 _ _ _ _ _ _)
      | (with_reducible exact missiveref09_Token.mono _ _)
      | (with_reducible exact LeO.refl _)
      | (with_reducible exact LeO.none _)
      | (with_reducible refine LeO.ite ?_ ?_)
      | (with_reducible refine LeO.bind ?_ (fun _ => ?_))
      | exact ih0 _ _ _
      | exact ih1 _ _ _ _ _ _
      | exact missiveref09_Token.mono _ _
      | exact LeO.none _
      | refine LeO.ite ?_ ?_
      | refine LeO.bind ?_ (fun _ => ?_)
theorem missiveref09_Quote.mono : ∀ a0 a1 k, LeO (missiveref09_Quote.f k a0 a1) (missiveref09_Quote.f (k + 1) a0 a1) := by
  intro a0 a1 k
  obtain ⟨ih0, ih1⟩ := missiveref09_Quote.mono_l k
  unfold missiveref09_Quote.f
  repeat' first
      | (with_reducible exact ih0 _ _ _)
      | (with_reducible exact ih1 _ _ _ _ _ _)
      | (with_reducible exact missiveref09_Token.mono _ _)
      | (with_reducible exact LeO.refl _)
      | (with_reducible exact LeO.none _)
      | (with_reducible refine LeO.ite ?_ ?_)
      | (with_reducible refine LeO.bind ?_ (fun _ => ?_))
      | exact ih0 _ _ _
      | exact ih1 _ _ _ _ _ _
      | exact missiveref09_Token.mono _ _
      | exact LeO.none _
      | refine LeO.ite ?_ ?_
      | refine LeO.bind ?_ (fun _ => ?_)
end Go.Proofs.YtieompfmhnpnaaaGreat.H
namespace Go.Proofs.YtieompfmhnpnaaaGreat.H
open Go.RowKit Go.Proofs.YtieompfmhnpnaaaGreatW.PrintWords Go.Proofs.YtieompfmhnpnaaaGreatW.PrintLast Go.Proofs.YtieompfmhnpnaaaGreatW.PrintMore
attribute [local go_sem] max2_int min2_int max_two min_two max_three min_three max_four min_four
set_option linter.unusedVariables false
set_option linter.unusedSimpArgs false
mutual
def missiveref09_Params.l0 : Nat → List ByteArray → List (S25) → Int → Option (ByteArray × (List (S25)))
  | 0, _, _, _ => none
  | k + 1, x4, x5, x6 => if x6 < (x4.length : Int) then (missiveref09_Params.l1 k x4 x5 x6 0) else (if 0 < (x4.length : Int) then ((missiveref01_Trim.f k (rdOf ByteArray.empty x4 0)).bind fun t166 => (some (t166, x5))) else (none))
def missiveref09_Params.j2 : Nat → List ByteArray → List (S25) → Int → Int → Option (ByteArray × (List (S25)))
  | 0, _, _, _, _ => none
  | k + 1, x4, x5, x6, x7 => if 0 ≤ x6 then (if x6 < (x4.length : Int) then (if x7 = ((rdOf ByteArray.empty x4 x6).size : Int) then (missiveref09_Params.l0 k x4 x5 (wrap64 (x6 + 1))) else (if 0 ≤ x7 then (if x7 ≤ ((rdOf ByteArray.empty x4 x6).size : Int) then ((missiveref01_Trim.f k ((rdOf ByteArray.empty x4 x6).extract 0 (x7 : Int).toNat)).bind fun t171 => ((missiveref01_Lower.f t171).bind fun t172 => (if 0 ≤ (wrap64 (x7 + 1)) then (if (wrap64 (x7 + 1)) ≤ ((rdOf ByteArray.empty x4 x6).size : Int) then ((missiveref01_Trim.f k ((rdOf ByteArray.empty x4 x6).extract ((wrap64 (x7 + 1)) : Int).toNat (rdOf ByteArray.empty x4 x6).size)).bind fun t174 => ((missiveref09_value.f k t174).bind fun bt175 => (missiveref09_Params.l2 k x4 x5 x6 t172 bt175.1 bt175.2 0))) else (none)) else (none)))) else (none)) else (none))) else (none)) else (none)
def missiveref09_Params.l2 : Nat → List ByteArray → List (S25) → Int → ByteArray → ByteArray → Bool → Int → Option (ByteArray × (List (S25)))
  | 0, _, _, _, _, _, _, _ => none
  | k + 1, x4, x5, x6, x8, x9, x10, x11 => if x11 < (x5.length : Int) then (if x10 = true then (if 0 ≤ x11 then (missiveref09_Params.l2 k x4 x5 x6 x8 x9 (((rd_T25 x5 x11).f0).toList != x8.toList) (wrap64 (x11 + 1))) else (none)) else (missiveref09_Params.l2 k x4 x5 x6 x8 x9 false (wrap64 (x11 + 1)))) else (if x10 = true then ((missiveref09_Token.f k x8).bind fun t178 => (if t178 = true then (if x5.length < 4398046511104 then (missiveref09_Params.l0 k x4 (x5 ++ [(⟨x8, x9⟩ : S25)]) (wrap64 (x6 + 1))) else (none)) else (missiveref09_Params.l0 k x4 x5 (wrap64 (x6 + 1))))) else (missiveref09_Params.l0 k x4 x5 (wrap64 (x6 + 1))))
def missiveref09_Params.l1 : Nat → List ByteArray → List (S25) → Int → Int → Option (ByteArray × (List (S25)))
  | 0, _, _, _, _ => none
  | k + 1, x4, x5, x6, x7 => if 0 ≤ x6 then (if x6 < (x4.length : Int) then (if x7 < ((rdOf ByteArray.empty x4 x6).size : Int) then (if 0 ≤ x7 then (if (bt (rdOf ByteArray.empty x4 x6) x7) = 61 then (missiveref09_Params.j2 k x4 x5 x6 x7) else (missiveref09_Params.l1 k x4 x5 x6 (wrap64 (x7 + 1)))) else (none)) else (missiveref09_Params.j2 k x4 x5 x6 x7)) else (none)) else (none)
end
def missiveref09_Params.f (k : Nat) (a0 : ByteArray) : Option (ByteArray × (List (S25))) := (missiveref09_Pieces.f k a0).bind fun t162 => (missiveref09_Params.l0 k t162 ([] : List (S25)) 1)
theorem missiveref09_Params.mono_l : ∀ k, (∀ y0 y1 y2, LeO (missiveref09_Params.l0 k y0 y1 y2) (missiveref09_Params.l0 (k + 1) y0 y1 y2)) ∧ (∀ y0 y1 y2 y3, LeO (missiveref09_Params.j2 k y0 y1 y2 y3) (missiveref09_Params.j2 (k + 1) y0 y1 y2 y3)) ∧ (∀ y0 y1 y2 y3 y4 y5 y6, LeO (missiveref09_Params.l2 k y0 y1 y2 y3 y4 y5 y6) (missiveref09_Params.l2 (k + 1) y0 y1 y2 y3 y4 y5 y6)) ∧ (∀ y0 y1 y2 y3, LeO (missiveref09_Params.l1 k y0 y1 y2 y3) (missiveref09_Params.l1 (k + 1) y0 y1 y2 y3))
  | 0 => ⟨fun _ _ _ r h => by simp [missiveref09_Params.l0] at h, fun _ _ _ _ r h => by simp [missiveref09_Params.j2] at h, fun _ _ _ _ _ _ _ r h => by simp [missiveref09_Params.l2] at h, fun _ _ _ _ r h => by simp [missiveref09_Params.l1] at h⟩
  | k + 1 => by
    obtain ⟨ih0, ih1, ih2, ih3⟩ := missiveref09_Params.mono_l k
    refine ⟨?_, ?_, ?_, ?_⟩
    · intro y0 y1 y2
      unfold missiveref09_Params.l0
      repeat' first
      | (with_reducible exact ih0 _ _ _)
      | (with_reducible exact ih1 _ _ _ _)
      | (with_reducible exact ih2 _ _ _ _ _ _ _)
      | (with_reducible exact ih3 _ _ _ _)
      | (with_reducible exact missiveref01_Trim.mono _ _)
      | (with_reducible exact missiveref09_Pieces.mono _ _)
      | (with_reducible exact missiveref09_Token.mono _ _)
      | (with_reducible exact missiveref09_value.mono _ _)
      | (with_reducible exact LeO.refl _)
      | (with_reducible exact LeO.none _)
      | (with_reducible refine LeO.ite ?_ ?_)
      | (with_reducible refine LeO.bind ?_ (fun _ => ?_))
      | exact ih0 _ _ _
      | exact ih1 _ _ _ _
      | exact ih2 _ _ _ _ _ _ _
      | exact ih3 _ _ _ _
      | exact missiveref01_Trim.mono _ _
      | exact missiveref09_Pieces.mono _ _
      | exact missiveref09_Token.mono _ _
      | exact missiveref09_value.mono _ _
      | exact LeO.none _
      | refine LeO.ite ?_ ?_
      | refine LeO.bind ?_ (fun _ => ?_)
    · intro y0 y1 y2 y3
      unfold missiveref09_Params.j2
      repeat' first
      | (with_reducible exact ih0 _ _ _)
      | (with_reducible exact ih1 _ _ _ _)
      | (with_reducible exact ih2 _ _ _ _ _ _ _)
      | (with_reducible exact ih3 _ _ _ _)
      | (with_reducible exact missiveref01_Trim.mono _ _)
      | (with_reducible exact missiveref09_Pieces.mono _ _)
      | (with_reducible exact missiveref09_Token.mono _ _)
      | (with_reducible exact missiveref09_value.mono _ _)
      | (with_reducible exact LeO.refl _)
      | (with_reducible exact LeO.none _)
      | (with_reducible refine LeO.ite ?_ ?_)
      | (with_reducible refine LeO.bind ?_ (fun _ => ?_))
      | exact ih0 _ _ _
      | exact ih1 _ _ _ _
      | exact ih2 _ _ _ _ _ _ _
      | exact ih3 _ _ _ _
      | exact missiveref01_Trim.mono _ _
      | exact missiveref09_Pieces.mono _ _
      | exact missiveref09_Token.mono _ _
      | exact missiveref09_value.mono _ _
      | exact LeO.none _
      | refine LeO.ite ?_ ?_
      | refine LeO.bind ?_ (fun _ => ?_)
    · intro y0 y1 y2 y3 y4 y5 y6
      unfold missiveref09_Params.l2
      repeat' first
      | (with_reducible exact ih0 _ _ _)
      | (with_reducible exact ih1 _ _ _ _)
      | (with_reducible exact ih2 _ _ _ _ _ _ _)
      | (with_reducible exact ih3 _ _ _ _)
      | (with_reducible exact missiveref01_Trim.mono _ _)
      | (with_reducible exact missiveref09_Pieces.mono _ _)
      | (with_reducible exact missiveref09_Token.mono _ _)
      | (with_reducible exact missiveref09_value.mono _ _)
      | (with_reducible exact LeO.refl _)
      | (with_reducible exact LeO.none _)
      | (with_reducible refine LeO.ite ?_ ?_)
      | (with_reducible refine LeO.bind ?_ (fun _ => ?_))
      | exact ih0 _ _ _
      | exact ih1 _ _ _ _
      | exact ih2 _ _ _ _ _ _ _
      | exact ih3 _ _ _ _
      | exact missiveref01_Trim.mono _ _
      | exact missiveref09_Pieces.mono _ _
      | exact missiveref09_Token.mono _ _
      | exact missiveref09_value.mono _ _
      | exact LeO.none _
      | refine LeO.ite ?_ ?_
      | refine LeO.bind ?_ (fun _ => ?_)
    · intro y0 y1 y2 y3
      unfold missiveref09_Params.l1
      repeat' first
      | (with_reducible exact ih0 _ _ _)
      | (with_reducible exact ih1 _ _ _ _)
      | (with_reducible exact ih2 _ _ _ _ _ _ _)
      | (with_reducible exact ih3 _ _ _ _)
      | (with_reducible exact missiveref01_Trim.mono _ _)
      | (with_reducible exact missiveref09_Pieces.mono _ _)
      | (with_reducible exact missiveref09_Token.mono _ _)
      | (with_reducible exact missiveref09_value.mono _ _)
      | (with_reducible exact LeO.refl _)
      | (with_reducible exact LeO.none _)
      | (with_reducible refine LeO.ite ?_ ?_)
      | (with_reducible refine LeO.bind ?_ (fun _ => ?_))
      | exact ih0 _ _ _
      | exact ih1 _ _ _ _
      | exact ih2 _ _ _ _ _ _ _
      | exact ih3 _ _ _ _
      | exact missiveref01_Trim.mono _ _
      | exact missiveref09_Pieces.mono _ _
      | exact missiveref09_Token.mono _ _
      | exact missiveref09_value.mono _ _
      | exact LeO.none _
      | refine LeO.ite ?_ ?_
      | refine LeO.bind ?_ (fun _ => ?_)
theorem missiveref09_Params.mono : ∀ a0 k, LeO (missiveref09_Params.f k a0) (missiveref09_Params.f (k + 1) a0) := by
  intro a0 k
  obtain ⟨ih0, ih1, ih2, ih3⟩ := missiveref09_Params.mono_l k
  unfold missiveref09_Params.f
  repeat' first
      | (with_reducible exact ih0 _ _ _)
      | (with_reducible exact ih1 _ _ _ _)
      | (with_reducible exact ih2 _ _ _ _ _ _ _)
      | (with_reducible exact ih3 _ _ _ _)
      | (with_reducible exact missiveref01_Trim.mono _ _)
      | (with_reducible exact missiveref09_Pieces.mono _ _)
      | (with_reducible exact missiveref09_Token.mono _ _)
      | (with_reducible exact missiveref09_value.mono _ _)
      | (with_reducible exact LeO.refl _)
      | (with_reducible exact LeO.none _)
      | (with_reducible refine LeO.ite ?_ ?_)
      | (with_reducible refine LeO.bind ?_ (fun _ => ?_))
      | exact ih0 _ _ _
      | exact ih1 _ _ _ _
      | exact ih2 _ _ _ _ _ _ _
      | exact ih3 _ _ _ _
      | exact missiveref01_Trim.mono _ _
      | exact missiveref09_Pieces.mono _ _
      | exact missiveref09_Token.mono _ _
      | exact missiveref09_value.mono _ _
      | exact LeO.none _
      | refine LeO.ite ?_ ?_
      | refine LeO.bind ?_ (fun _ => ?_)
end Go.Proofs.YtieompfmhnpnaaaGreat.H
end
section
namespace Go.Proofs.YtieompfmhnpnaaaGreat.H
open Go.RowKit Go.Proofs.YtieompfmhnpnaaaGreatW.PrintWords Go.Proofs.YtieompfmhnpnaaaGreatW.PrintLast Go.Proofs.YtieompfmhnpnaaaGreatW.PrintMore
attribute [local go_sem] max2_int min2_int max_two min_two max_three min_three max_four min_four
set_option linter.unusedVariables false
set_option linter.unusedSimpArgs false
mutual
def missiveref09_Parse.l0 : Nat → ByteArray → List (S35) → Int → Option ((List (S35)) × Int)
  | 0, _, _, _ => none
  | k + 1, x0, x4, x5 => if x5 < (x0.size : Int) then ((missiveref09_end.f k x0 x5).bind fun bt299 => (if bt299.2.toList = ([] : List UInt8) then (some (x4, bt299.1)) else (if 0 < (bt299.2.size : Int) then ((missiveref09_white.f (bt bt299.2 0)).bind fun t301 => (if t301 = true then (if (x4.length : Int) = 0 then (some (x4, x5)) else ((missiveref01_Trim.f k bt299.2).bind fun t302 => (if t302.toList = ([] : List UInt8) then (missiveref09_Parse.j1 k x0 x4 bt299.1 (x4.length : Int) t302 false) else (if 0 ≤ (wrap64 ((x4.length : Int) - 1)) then (if (wrap64 ((x4.length : Int) - 1)) < (x4.length : Int) then (missiveref09_Parse.j1 k x0 x4 bt299.1 (x4.length : Int) t302 (((rd_T35 x4 (wrap64 ((x4.length : Int) - 1))).f1).toList != ([] : List UInt8))) else (none)) else (none))))) else ((missiveref09_colon.f k bt299.2).bind fun t307 => (if t307 < 0 then (missiveref09_Parse.j2 k x0 x4 x5 bt299.1 bt299.2 t307 true) else (missiveref09_Parse.j2 k x0 x4 x5 bt299.1 bt299.2 t307 (decide ((x4.length : Int) ≥ 400))))))) else (none)))) else (some (x4, (x0.size : Int)))
def missiveref09_Parse.j1 : Nat → ByteArray → List (S35) → Int → Int → ByteArray → Bool → Option ((List (S35)) × Int)
  | 0, _, _, _, _, _, _ => none
  | k + 1, x0, x4, x6, x8, x9, x46 => if x46 = true then (if 0 ≤ (wrap64 (x8 - 1)) then (if (wrap64 (x8 - 1)) < (x4.length : Int) then (if ((rd_T35 x4 (wrap64 (x8 - 1))).f1).size + 1 ≤ 9223372036854775807 then (if (((rd_T35 x4 (wrap64 (x8 - 1))).f1) ++ (⟨#[32]⟩ : ByteArray)).size + x9.size ≤ 9223372036854775807 then (if ((((rd_T35 x4 (wrap64 (x8 - 1))).f1) ++ (⟨#[32]⟩ : ByteArray)) ++ x9).toList = ([] : List UInt8) then (missiveref09_Parse.l0 k x0 x4 x6) else (missiveref09_Parse.l0 k x0 (x4.set ((wrap64 (x8 - 1)) : Int).toNat (⟨(rd_T35 x4 (wrap64 (x8 - 1))).f0, (((rd_T35 x4 (wrap64 (x8 - 1))).f1) ++ (⟨#[32]⟩ : ByteArray)) ++ x9⟩ : S35)) x6)) else (none)) else (none)) else (none)) else (none)) else (if x9.toList = ([] : List UInt8) then (missiveref09_Parse.l0 k x0 x4 x6) else (if 0 ≤ (wrap64 (x8 - 1)) then (if (wrap64 (x8 - 1)) < (x4.length : Int) then (missiveref09_Parse.l0 k x0 (x4.set ((wrap64 (x8 - 1)) : Int).toNat (⟨(rd_T35 x4 (wrap64 (x8 - 1))).f0, x9⟩ : S35)) x6) else (none)) else (none)))
def missiveref09_Parse.j2 : Nat → ByteArray → List (S35) → Int → Int → ByteArray → Int → Bool → Option ((List (S35)) × Int)
  | 0, _, _, _, _, _, _, _ => none
  | k + 1, x0, x4, x5, x6, x7, x10, x72 => if x72 = true then (some (x4, x5)) else (if 0 ≤ x10 then (if x10 ≤ (x7.size : Int) then ((missiveref09_Named.f k (x7.extract 0 (x10 : Int).toNat)).bind fun t308 => (if t308 = true then (if 0 ≤ (wrap64 (x10 + 1)) then (if (wrap64 (x10 + 1)) ≤ (x7.size : Int) then ((missiveref01_Trim.f k (x7.extract ((wrap64 (x10 + 1)) : Int).toNat x7.size)).bind fun t309 => (if x4.length < 4398046511104 then (missiveref09_Parse.l0 k x0 (x4 ++ [(⟨x7.extract 0 (x10 : Int).toNat, t309⟩ : S35)]) x6) else (none))) else (none)) else (none)) else (some (x4, x5)))) else (none)) else (none))
end
def missiveref09_Parse.f (k : Nat) (a0 : ByteArray) : Option ((List (S35)) × Int) := missiveref09_Parse.l0 k a0 ([] : List (S35)) 0
theorem missiveref09_Parse.mono_l : ∀ k, (∀ y0 y1 y2, LeO (missiveref09_Parse.l0 k y0 y1 y2) (missiveref09_Parse.l0 (k + 1) y0 y1 y2)) ∧ (∀ y0 y1 y2 y3 y4 y5, LeO (missiveref09_Parse.j1 k y0 y1 y2 y3 y4 y5) (missiveref09_Parse.j1 (k + 1) y0 y1 y2 y3 y4 y5)) ∧ (∀ y0 y1 y2 y3 y4 y5 y6, LeO (missiveref09_Parse.j2 k y0 y1 y2 y3 y4 y5 y6) (missiveref09_Parse.j2 (k + 1) y0 y1 y2 y3 y4 y5 y6))
  | 0 => ⟨fun _ _ _ r h => by simp [missiveref09_Parse.l0] at h, fun _ _ _ _ _ _ r h => by simp [missiveref09_Parse.j1] at h, fun _ _ _ _ _ _ _ r h => by simp [missiveref09_Parse.j2] at h⟩
  | k + 1 => by
    obtain ⟨ih0, ih1, ih2⟩ := missiveref09_Parse.mono_l k
    refine ⟨?_, ?_, ?_⟩
    · intro y0 y1 y2
      unfold missiveref09_Parse.l0
      repeat' first
      | (with_reducible exact ih0 _ _ _)
      | (with_reducible exact ih1 _ _ _ _ _ _)
      | (with_reducible exact ih2 _ _ _ _ _ _ _)
      | (with_reducible exact missiveref01_Trim.mono _ _)
      | (with_reducible exact missiveref09_Named.mono _ _)
      | (with_reducible exact missiveref09_colon.mono _ _)
      | (with_reducible exact missiveref09_end.mono _ _ _)
      | (with_reducible exact LeO.refl _)
      | (with_reducible exact LeO.none _)
      | (with_reducible refine LeO.ite ?_ ?_)
      | (with_reducible refine LeO.bind ?_ (fun _ => ?_))
      | exact ih0 _ _ _
      | exact ih1 _ _ _ _ _ _
      | exact ih2 _ _ _ _ _ _ _
      | exact missiveref01_Trim.mono _ _
      | exact missiveref09_Named.mono _ _
      | exact missiveref09_colon.mono _ _
      | exact missiveref09_end.mono _ _ _
      | exact LeO.none _
      | refine LeO.ite ?_ ?_
      | refine LeO.bind ?_ (fun _ => ?_)
    · intro y0 y1 y2 y3 y4 y5
      unfold missiveref09_Parse.j1
      repeat' first
      | (with_reducible exact ih0 _ _ _)
      | (with_reducible exact ih1 _ _ _ _ _ _)
      | (with_reducible exact ih2 _ _ _ _ _ _ _)
      | (with_reducible exact missiveref01_Trim.mono _ _)
      | (with_reducible exact missiveref09_Named.mono _ _)
      | (with_reducible exact missiveref09_colon.mono _ _)
      | (with_reducible exact missiveref09_end.mono _ _ _)
      | (with_reducible exact LeO.refl _)
      | (with_reducible exact LeO.none _)
      | (with_reducible refine LeO.ite ?_ ?_)
      | (with_reducible refine LeO.bind ?_ (fun _ => ?_))
      | exact ih0 _ _ _
      | exact ih1 _ _ _ _ _ _
      | exact ih2 _ _ _ _ _ _ _
      | exact missiveref01_Trim.mono _ _
      | exact missiveref09_Named.mono _ _
      | exact missiveref09_colon.mono _ _
      | exact missiveref09_end.mono _ _ _
      | exact LeO.none _
      | refine LeO.ite ?_ ?_
      | refine LeO.bind ?_ (fun _ => ?_)
    · intro y0 y1 y2 y3 y4 y5 y6
      unfold missiveref09_Parse.j2
      repeat' first
      | (with_reducible exact ih0 _ _ _)
      | (with_reducible exact ih1 _ _ _ _ _ _)
      | (with_reducible exact ih2 _ _ _ _ _ _ _)
      | (with_reducible exact missiveref01_Trim.mono _ _)
      | (with_reducible exact missiveref09_Named.mono _ _)
      | (with_reducible exact missiveref09_colon.mono _ _)
      | (with_reducible exact missiveref09_end.mono _ _ _)
      | (with_reducible exact LeO.refl _)
      | (with_reducible exact LeO.none _)
      | (with_reducible refine LeO.ite ?_ ?_)
      | (with_reducible refine LeO.bind ?_ (fun _ => ?_))
      | exact ih0 _ _ _
      | exact ih1 _ _ _ _ _ _
      | exact ih2 _ _ _ _ _ _ _
      | exact missiveref01_Trim.mono _ _
      | exact missiveref09_Named.mono _ _
      | exact missiveref09_colon.mono _ _
      | exact missiveref09_end.mono _ _ _
      | exact LeO.none _
      | refine LeO.ite ?_ ?_
      | refine LeO.bind ?_ (fun _ => ?_)
theorem missiveref09_Parse.mono : ∀ a0 k, LeO (missiveref09_Parse.f k a0) (missiveref09_Parse.f (k + 1) a0) := by
  intro a0 k
  obtain ⟨ih0, ih1, ih2⟩ := missiveref09_Parse.mono_l k
  unfold missiveref09_Parse.f
  repeat' first
      | (with_reducible exact ih0 _ _ _)
      | (with_reducible exact ih1 _ _ _ _ _ _)
      | (with_reducible exact ih2 _ _ _ _ _ _ _)
      | (with_reducible exact missiveref01_Trim.mono _ _)
      | (with_reducible exact missiveref09_Named.mono _ _)
      | (with_reducible exact missiveref09_colon.mono _ _)
      | (with_reducible exact missiveref09_end.mono _ _ _)
      | (with_reducible exact LeO.refl _)
      | (with_reducible exact LeO.none _)
      | (with_reducible refine LeO.ite ?_ ?_)
      | (with_reducible refine LeO.bind ?_ (fun _ => ?_))
      | exact ih0 _ _ _
      | exact ih1 _ _ _ _ _ _
      | exact ih2 _ _ _ _ _ _ _
      | exact missiveref01_Trim.mono _ _
      | exact missiveref09_Named.mono _ _
      | exact missiveref09_colon.mono _ _
      | exact missiveref09_end.mono _ _ _
      | exact LeO.none _
      | refine LeO.ite ?_ ?_
      | refine LeO.bind ?_ (fun _ => ?_)
def missiveref09_Parse.T22 : Bool × List (List Nat × List Nat) := (true, [([], []), ([], []), ([], []), ([1, 2], [1, 2]), ([], []), ([], []), ([5], [5]), ([4, 6], [4, 6]), ([7], [7]), ([3, 8], [3, 8]), ([9], [9]), ([0, 10, 8], [0, 10]), ([11, 11, 0, 1, 2, 3, 4, 5, 6, 7, 8, 9, 10, 11], [0, 11])])
def missiveref09_Parse.B22 : List Nat := [0, 0, 0, 6, 0, 0, 32, 112, 240, 510, 1022, 2047, 4095]
theorem missiveref09_Parse.tab22 : rtab .any (opsOf Tryz.f28 22) = missiveref09_Parse.T22 := by kernel_rfl
theorem missiveref09_Parse.bits22 : waitsOk missiveref09_Parse.T22.2 missiveref09_Parse.B22 = true := by kernel_rfl
set_option maxHeartbeats 8000000 in
set_option maxRecDepth 100000 in
theorem missiveref09_Parse.calls (k : Nat) (a0 : ByteArray) (r1 : List (S35)) (r2 : Int) (w : World) (h : missiveref09_Parse.f k a0 = some (r1, r2)) :
    Calls Tryz.prog 28 #[.string a0] w fun e w' => ∃ v0_ : Value, e = .returned (.tuple #[v0_, .int .i64 r2]) ∧ Kd.R k35 35 w' w.heap.size (fun _ => True) v0_ r1 ∧ Below w.heap.size w w' := by
  have hu35 := Tryz.underlying35
  have HB := Aside0.mk (Below.refl w.heap.size w)
  have H : (missiveref09_Parse.l0 k a0 ([] : List (S35)) 0) = some (r1, r2) := h
  clear h
  have H' := Aside0.mk H
  clear H
  go_enter Tryz.func28, Tryz.ntmps28
  go_wp2
  go_loopg [4, 5] k (fun kq v4 v5 w' => ∃ (x4_1 : List (S35)) (x5_1 : Int), v5 = .int .i64 x5_1 ∧ Aside0 (missiveref09_Parse.l0 kq a0 x4_1 x5_1 = some (r1, r2)) ∧ Aside0 (kq ≤ k) ∧ Aside0 (Kd.R k35 35 w' w.heap.size (fun _ => True) v4 x4_1) ∧ Aside0 (Below w.heap.size w w'))
  case atStart => exact ⟨(([] : List (S35))), (0), (by first | rfl | (simp; done) | (simp [*]; done)), H', ⟨Nat.le_refl _⟩, ⟨by first | exact Kd.R_nil _ _ _ _ _ | exact Kd.N_nil _ _ _ _ _ | exact Kd.V_nil _ _ _ _ _ | exact Kd.Q_nil _ _ _ _ _ | exact Kd.S_nil _ _ _ _ _⟩, ⟨by repeat (first | (with_reducible first | exact HB.out | apply below_alloc | apply pw_below_drewN | apply below_drew1) | exact HB.out)⟩⟩
  case round =>
    clear H'
    obtain ⟨x4_1, x5_1, rfl, HA, HK1, HO_4, HB⟩ := hrel
    cases gk with
    | zero => exact absurd HA.out (by simp [missiveref09_Parse.l0])
    | succ k1 =>
      have H := HA.out
      clear HA
      simp only [missiveref09_Parse.l0] at H
      by_cases c2 : x5_1 < (a0.size : Int)
      · rw [if_pos c2] at H
        have c2b0 : decide (x5_1 < (a0.size : Int)) = true := decide_eq_true c2
        clear c2
        replace H := Option.bind_eq_some_iff.mp H
        obtain ⟨⟨t299, t300⟩, A30, H⟩ := H
        replace H : (if t300.toList = ([] : List UInt8) then (some (x4_1, t299)) else (if 0 < (t300.size : Int) then ((missiveref09_white.f (bt t300 0)).bind fun t301 => (if t301 = true then (if (x4_1.length : Int) = 0 then (some (x4_1, x5_1)) else ((missiveref01_Trim.f k1 t300).bind fun t302 => (if t302.toList = ([] : List UInt8) then (missiveref09_Parse.j1 k1 a0 x4_1 t299 (x4_1.length : Int) t302 false) else (if 0 ≤ (wrap64 ((x4_1.length : Int) - 1)) then (if (wrap64 ((x4_1.length : Int) - 1)) < (x4_1.length : Int) then (missiveref09_Parse.j1 k1 a0 x4_1 t299 (x4_1.length : Int) t302 (((rd_T35 x4_1 (wrap64 ((x4_1.length : Int) - 1))).f1).toList != ([] : List UInt8))) else (none)) else (none))))) else ((missiveref09_colon.f k1 t300).bind fun t307 => (if t307 < 0 then (missiveref09_Parse.j2 k1 a0 x4_1 x5_1 t299 t300 t307 true) else (missiveref09_Parse.j2 k1 a0 x4_1 x5_1 t299 t300 t307 (decide ((x4_1.length : Int) ≥ 400))))))) else (none))) = some (r1, r2) := H
        have A3 := Aside0.mk A30
        clear A30
        by_cases c4 : t300.toList = ([] : List UInt8)
        · rw [if_pos c4] at H
          have c4b0 : (t300.toList == ([] : List UInt8)) = true := beq_iff_eq.mpr c4
          have c4b1 : (t300.toList != ([] : List UInt8)) = false := bne_eq_false_iff_eq.mpr c4
          clear c4
          simp only [Option.some.injEq, Prod.mk.injEq] at H
          obtain ⟨rfl, rfl⟩ := H
          go_wp2_with (first | ((with_reducible refine gate_callee (f := 65) rfl ?_); refine goesL_ (some 18) rfl rfl Tryz.func65 (by kernel_rfl) rfl #[.string a0, .int .i64 x5_1] rfl (by (try simp only [List.map_toArray, List.map_cons, List.map_nil]); first | done | rfl | (simp only [List.length_drop, List.length_take]; rfl)) ?_; (with_reducible refine (missiveref09_end.calls k1 a0 x5_1 t299 t300 _ A3.out).mono ?_); rintro e w' ⟨rfl, ⟨nd, rfl⟩⟩; refine ⟨_, rfl, ?_⟩))
          go_ret2
          exact ⟨_, by first | rfl | (simp [errW_none, errW_some]; done) | (simp [errW_none, errW_some]; exact isEmpty_nbne _) | (simp [errW_none, errW_some]; exact isEmpty_bne _) | (simp [errW_none, errW_some] <;> rfl) | (simp [*, errW_none, errW_some] <;> rfl), by (with_reducible repeat (first | apply Kd.R_alloc | apply Kd.R_drewN | apply Kd.R_drew)); exact HO_4.out, by repeat (first | (with_reducible first | exact HB.out | apply below_alloc | apply pw_below_drewN | apply below_drew1) | exact HB.out)⟩
        · rw [if_neg c4] at H
          have c4b0 : (t300.toList == ([] : List UInt8)) = false := beq_eq_false_iff_ne.mpr c4
          have c4b1 : (t300.toList != ([] : List UInt8)) = true := bne_iff_ne.mpr c4
          by_cases c5 : 0 < (t300.size : Int)
          · rw [if_pos c5] at H
            have c5b0 : decide (0 < (t300.size : Int)) = true := decide_eq_true c5
            have c5b1 : decide (0 < t300.size) = true := decide_eq_true (by omega)
            clear c5
            replace H := Option.bind_eq_some_iff.mp H
            obtain ⟨t301, A70, H⟩ := H
            replace H : (if t301 = true then (if (x4_1.length : Int) = 0 then (some (x4_1, x5_1)) else ((missiveref01_Trim.f k1 t300).bind fun t302 => (if t302.toList = ([] : List UInt8) then (missiveref09_Parse.j1 k1 a0 x4_1 t299 (x4_1.length : Int) t302 false) else (if 0 ≤ (wrap64 ((x4_1.length : Int) - 1)) then (if (wrap64 ((x4_1.length : Int) - 1)) < (x4_1.length : Int) then (missiveref09_Parse.j1 k1 a0 x4_1 t299 (x4_1.length : Int) t302 (((rd_T35 x4_1 (wrap64 ((x4_1.length : Int) - 1))).f1).toList != ([] : List UInt8))) else (none)) else (none))))) else ((missiveref09_colon.f k1 t300).bind fun t307 => (if t307 < 0 then (missiveref09_Parse.j2 k1 a0 x4_1 x5_1 t299 t300 t307 true) else (missiveref09_Parse.j2 k1 a0 x4_1 x5_1 t299 t300 t307 (decide ((x4_1.length : Int) ≥ 400)))))) = some (r1, r2) := H
            have A7 := Aside0.mk A70
            clear A70
            by_cases c8 : t301 = true
            · subst c8
              have H1 : (if (x4_1.length : Int) = 0 then (some (x4_1, x5_1)) else ((missiveref01_Trim.f k1 t300).bind fun t302 => (if t302.toList = ([] : List UInt8) then (missiveref09_Parse.j1 k1 a0 x4_1 t299 (x4_1.length : Int) t302 false) else (if 0 ≤ (wrap64 ((x4_1.length : Int) - 1)) then (if (wrap64 ((x4_1.length : Int) - 1)) < (x4_1.length : Int) then (missiveref09_Parse.j1 k1 a0 x4_1 t299 (x4_1.length : Int) t302 (((rd_T35 x4_1 (wrap64 ((x4_1.length : Int) - 1))).f1).toList != ([] : List UInt8))) else (none)) else (none))))) = some (r1, r2) := by rw [if_pos rfl] at H; exact H
              clear H
              have H := H1
              clear H1
              by_cases c9 : (x4_1.length : Int) = 0
              · rw [if_pos c9] at H
                have c9b0 : ((x4_1.length : Int) == 0) = true := beq_iff_eq.mpr c9
                have c9b1 : ((x4_1.length : Int) != 0) = false := bne_eq_false_iff_eq.mpr c9
                clear c9
                simp only [Option.some.injEq, Prod.mk.injEq] at H
                obtain ⟨rfl, rfl⟩ := H
                go_wp2_with (first | ((with_reducible refine gate_callee (f := 65) rfl ?_); refine goesL_ (some 18) rfl rfl Tryz.func65 (by kernel_rfl) rfl #[.string a0, .int .i64 x5_1] rfl (by (try simp only [List.map_toArray, List.map_cons, List.map_nil]); first | done | rfl | (simp only [List.length_drop, List.length_take]; rfl)) ?_; (with_reducible refine (missiveref09_end.calls k1 a0 x5_1 t299 t300 _ A3.out).mono ?_); rintro e w' ⟨rfl, ⟨nd, rfl⟩⟩; refine ⟨_, rfl, ?_⟩; obtain ⟨Ao10, co10, eo10⟩ := Kd.R_slice HO_4.out; subst eo10; have p6 : 0 ≤ (0 : Int) := (by omega); have q6 : 0 < t300.size := (by have : (0 : Int) < (t300.size : Int) := of_decide_eq_true (by first | (with_reducible assumption) | assumption); omega); have hx6 : ∀ h : 0 < t300.size, ((t300[0]'h).toNat : Int) = bt t300 0 := bt_at t300 0; clear p6; have qi6 : (0 < (t300.size : Int)) = True := eq_true (of_decide_eq_true (by first | (with_reducible assumption) | assumption)); replace q6 := eq_true q6) | ((with_reducible refine gate_callee (f := 64) rfl ?_); refine goesL_ (some 29) rfl rfl Tryz.func64 (by kernel_rfl) rfl #[.int .u8 (bt t300 0)] rfl (by (try simp only [List.map_toArray, List.map_cons, List.map_nil]); first | done | rfl | (simp only [List.length_drop, List.length_take]; rfl)) ?_; (with_reducible refine (missiveref09_white.calls (bt t300 0) true _ A7.out).mono ?_); rintro e w' ⟨rfl, ⟨nd, rfl⟩⟩; refine ⟨_, rfl, ?_⟩))
                go_ret2
                exact ⟨_, by first | rfl | (simp [errW_none, errW_some]; done) | (simp [errW_none, errW_some]; exact isEmpty_nbne _) | (simp [errW_none, errW_some]; exact isEmpty_bne _) | (simp [errW_none, errW_some] <;> rfl) | (simp [*, errW_none, errW_some] <;> rfl), by (with_reducible repeat (first | apply Kd.R_alloc | apply Kd.R_drewN | apply Kd.R_drew)); exact HO_4.out, by repeat (first | (with_reducible first | exact HB.out | apply below_alloc | apply pw_below_drewN | apply below_drew1) | exact HB.out)⟩
              · rw [if_neg c9] at H
                have c9b0 : ((x4_1.length : Int) == 0) = false := beq_eq_false_iff_ne.mpr c9
                have c9b1 : ((x4_1.length : Int) != 0) = true := bne_iff_ne.mpr c9
                have c9b2 : ¬ (x4_1 = []) := fun h_ => c9 (by rw [h_]; rfl)
                replace H := Option.bind_eq_some_iff.mp H
                obtain ⟨t302, A110, H⟩ := H
                replace H : (if t302.toList = ([] : List UInt8) then (missiveref09_Parse.j1 k1 a0 x4_1 t299 (x4_1.length : Int) t302 false) else (if 0 ≤ (wrap64 ((x4_1.length : Int) - 1)) then (if (wrap64 ((x4_1.length : Int) - 1)) < (x4_1.length : Int) then (missiveref09_Parse.j1 k1 a0 x4_1 t299 (x4_1.length : Int) t302 (((rd_T35 x4_1 (wrap64 ((x4_1.length : Int) - 1))).f1).toList != ([] : List UInt8))) else (none)) else (none))) = some (r1, r2) := H
                have A11 := Aside0.mk A110
                clear A110
                have HC12 := Aside0.mk H
                clear H
                go_upto_region 12 with (first | ((with_reducible refine gate_callee (f := 65) rfl ?_); refine goesL_ (some 18) rfl rfl Tryz.func65 (by kernel_rfl) rfl #[.string a0, .int .i64 x5_1] rfl (by (try simp only [List.map_toArray, List.map_cons, List.map_nil]); first | done | rfl | (simp only [List.length_drop, List.length_take]; rfl)) ?_; (with_reducible refine (missiveref09_end.calls k1 a0 x5_1 t299 t300 _ A3.out).mono ?_); rintro e w' ⟨rfl, ⟨nd, rfl⟩⟩; refine ⟨_, rfl, ?_⟩; obtain ⟨Ao13, co13, eo13⟩ := Kd.R_slice HO_4.out; subst eo13; have p6 : 0 ≤ (0 : Int) := (by omega); have q6 : 0 < t300.size := (by have : (0 : Int) < (t300.size : Int) := of_decide_eq_true (by first | (with_reducible assumption) | assumption); omega); have hx6 : ∀ h : 0 < t300.size, ((t300[0]'h).toNat : Int) = bt t300 0 := bt_at t300 0; clear p6; have qi6 : (0 < (t300.size : Int)) = True := eq_true (of_decide_eq_true (by first | (with_reducible assumption) | assumption)); replace q6 := eq_true q6) | ((with_reducible refine gate_callee (f := 64) rfl ?_); refine goesL_ (some 29) rfl rfl Tryz.func64 (by kernel_rfl) rfl #[.int .u8 (bt t300 0)] rfl (by (try simp only [List.map_toArray, List.map_cons, List.map_nil]); first | done | rfl | (simp only [List.length_drop, List.length_take]; rfl)) ?_; (with_reducible refine (missiveref09_white.calls (bt t300 0) true _ A7.out).mono ?_); rintro e w' ⟨rfl, ⟨nd, rfl⟩⟩; refine ⟨_, rfl, ?_⟩) | ((with_reducible refine gate_callee (f := 45) rfl ?_); refine goesL_ (some 35) rfl rfl Tryz.func45 (by kernel_rfl) rfl #[.string t300] rfl (by (try simp only [List.map_toArray, List.map_cons, List.map_nil]); first | done | rfl | (simp only [List.length_drop, List.length_take]; rfl)) ?_; (with_reducible refine (missiveref01_Trim.calls k1 t300 t302 _ A11.out).mono ?_); rintro e w' ⟨rfl, ⟨nd, rfl⟩⟩; refine ⟨_, rfl, ?_⟩))
                (try simp only [Act.put, List.setIfInBounds_toArray, List.set_cons_zero, List.set_cons_succ])
                go_cut [46] (fun v46 wc => ∃ (kq : Nat) (x46_11 : Bool), v46 = .bool x46_11 ∧ Aside0 (missiveref09_Parse.j1 kq a0 x4_1 t299 (x4_1.length : Int) t302 x46_11 = some (r1, r2)) ∧ Aside0 (kq ≤ k1) ∧ Aside0 (Kd.R k35 35 wc w.heap.size (fun _ => True) (.slice Ao13 x4_1.length co13) x4_1) ∧ Aside0 (Below w.heap.size w wc))
                case first =>
                  have H := HC12.out
                  clear HC12
                  by_cases c14 : t302.toList = ([] : List UInt8)
                  · rw [if_pos c14] at H
                    have c14b0 : (t302.toList == ([] : List UInt8)) = true := beq_iff_eq.mpr c14
                    have c14b1 : (t302.toList != ([] : List UInt8)) = false := bne_eq_false_iff_eq.mpr c14
                    clear c14
                    (first | rw [c14b0] | (simp only [i64_w, i32_w]; rw [c14b0]) | skip)
                    have H' := Aside0.mk H
                    clear H
                    go_wp2
                    go_meet
                    case rel => exact ⟨_, (false), (by first | rfl | (simp; done) | (simp [*]; done)), H', ⟨by have := HK1.out; first | omega | exact Nat.le_refl _⟩, ⟨by (with_reducible repeat (first | apply Kd.R_alloc | apply Kd.R_drewN | apply Kd.R_drew)); exact HO_4.out⟩, ⟨by repeat (first | (with_reducible first | exact HB.out | apply below_alloc | apply pw_below_drewN | apply below_drew1) | exact HB.out)⟩⟩
                  · rw [if_neg c14] at H
                    have c14b0 : (t302.toList == ([] : List UInt8)) = false := beq_eq_false_iff_ne.mpr c14
                    have c14b1 : (t302.toList != ([] : List UInt8)) = true := bne_iff_ne.mpr c14
                    (first | rw [c14b0] | (simp only [i64_w, i32_w]; rw [c14b0]) | skip)
                    obtain ⟨ji15, hji15⟩ : ∃ j_ : Int, (wrap64 ((x4_1.length : Int) - 1)) = j_ := ⟨_, rfl⟩
                    replace H : (if 0 ≤ (ji15) then (if (ji15) < (x4_1.length : Int) then (missiveref09_Parse.j1 k1 a0 x4_1 t299 (x4_1.length : Int) t302 (((rd_T35 x4_1 (ji15)).f1).toList != ([] : List UInt8))) else (none)) else (none)) = some (r1, r2) := by first | (rw [hji15] at H; exact H) | (simp only [hji15] at H ⊢; exact H)
                    have hji15w : (IntKind.i64.wrap ((x4_1.length : Int) - 1)) = ji15 := (i64_w _).trans hji15
                    by_cases c16 : 0 ≤ (ji15)
                    · rw [if_pos c16] at H
                      have c16b0 : decide (0 ≤ (ji15)) = true := decide_eq_true c16
                      clear c16
                      by_cases c17 : (ji15) < (x4_1.length : Int)
                      · rw [if_pos c17] at H
                        have c17b0 : decide ((ji15) < (x4_1.length : Int)) = true := decide_eq_true c17
                        clear c17
                        have H' := Aside0.mk H
                        clear H
                        have p303 : 0 ≤ ((ji15) : Int) := of_decide_eq_true (by first | (with_reducible assumption) | assumption)
                        have q303 : (ji15) < (x4_1.length : Int) := of_decide_eq_true (by first | (with_reducible assumption) | assumption)
                        obtain ⟨ad303, e303, hx303_0, hx303_1⟩ := at_T35 (Kd.R_reads' HO_4.out).2.2 (ji15) p303 q303
                        cases e303
                        replace p303 := eq_true p303
                        replace q303 := eq_true q303
                        go_wp2
                        go_meet
                        case rel => exact ⟨_, ((((rd_T35 x4_1 (ji15)).f1).toList != ([] : List UInt8))), (by first | rfl | (simp; done) | (simp only [← hji15]; simp; exact isEmpty_nbne _) | (simp only [← hji15] <;> (first | rfl | (simp; done))) | (simp [*]; done)), H', ⟨by have := HK1.out; first | omega | exact Nat.le_refl _⟩, ⟨by (with_reducible repeat (first | apply Kd.R_alloc | apply Kd.R_drewN | apply Kd.R_drew)); exact HO_4.out⟩, ⟨by repeat (first | (with_reducible first | exact HB.out | apply below_alloc | apply pw_below_drewN | apply below_drew1) | exact HB.out)⟩⟩
                      · rw [if_neg c17] at H
                        exact absurd H (by simp)
                    · rw [if_neg c16] at H
                      exact absurd H (by simp)
                case rest =>
                  clear HC12
                  try clear c1
                  try clear c2
                  try clear c2b0
                  try clear p2
                  try clear p3
                  try clear q3
                  try clear hx3
                  try clear c4
                  try clear c4b0
                  try clear c4b1
                  try clear c5
                  try clear c5b0
                  try clear c5b1
                  try clear c6
                  try clear p6
                  try clear q6
                  try clear hx6
                  try clear qi6
                  try clear c8
                  try clear c9
                  try clear c9b0
                  try clear c9b1
                  try clear c9b2
                  try clear c14
                  try clear c14b0
                  try clear c14b1
                  try clear c16
                  try clear c16b0
                  try clear c17
                  try clear c17b0
                  try clear hx303_0
                  try clear hx303_1
                  try clear p303
                  try clear p6
                  try clear q303
                  try clear q6
                  obtain ⟨kq, x46_11, rfl, HA, HJ11, HO_4, HB⟩ := hcut
                  cases kq with
                  | zero => exact absurd HA.out (by simp [missiveref09_Parse.j1])
                  | succ kj11 =>
                    have H := HA.out
                    clear HA
                    simp only [missiveref09_Parse.j1] at H
                    by_cases c18 : x46_11 = true
                    · subst c18
                      have H1 : (if 0 ≤ (wrap64 ((x4_1.length : Int) - 1)) then (if (wrap64 ((x4_1.length : Int) - 1)) < (x4_1.length : Int) then (if ((rd_T35 x4_1 (wrap64 ((x4_1.length : Int) - 1))).f1).size + 1 ≤ 9223372036854775807 then (if (((rd_T35 x4_1 (wrap64 ((x4_1.length : Int) - 1))).f1) ++ (⟨#[32]⟩ : ByteArray)).size + t302.size ≤ 9223372036854775807 then (if ((((rd_T35 x4_1 (wrap64 ((x4_1.length : Int) - 1))).f1) ++ (⟨#[32]⟩ : ByteArray)) ++ t302).toList = ([] : List UInt8) then (missiveref09_Parse.l0 kj11 a0 x4_1 t299) else (missiveref09_Parse.l0 kj11 a0 (x4_1.set ((wrap64 ((x4_1.length : Int) - 1)) : Int).toNat (⟨(rd_T35 x4_1 (wrap64 ((x4_1.length : Int) - 1))).f0, (((rd_T35 x4_1 (wrap64 ((x4_1.length : Int) - 1))).f1) ++ (⟨#[32]⟩ : ByteArray)) ++ t302⟩ : S35)) t299)) else (none)) else (none)) else (none)) else (none)) = some (r1, r2) := by rw [if_pos rfl] at H; exact H
                      clear H
                      have H := H1
                      clear H1
                      obtain ⟨ji19, hji19⟩ : ∃ j_ : Int, (wrap64 ((x4_1.length : Int) - 1)) = j_ := ⟨_, rfl⟩
                      replace H : (if 0 ≤ (ji19) then (if (ji19) < (x4_1.length : Int) then (if ((rd_T35 x4_1 (ji19)).f1).size + 1 ≤ 9223372036854775807 then (if (((rd_T35 x4_1 (ji19)).f1) ++ (⟨#[32]⟩ : ByteArray)).size + t302.size ≤ 9223372036854775807 then (if ((((rd_T35 x4_1 (ji19)).f1) ++ (⟨#[32]⟩ : ByteArray)) ++ t302).toList = ([] : List UInt8) then (missiveref09_Parse.l0 kj11 a0 x4_1 t299) else (missiveref09_Parse.l0 kj11 a0 (x4_1.set ((ji19) : Int).toNat (⟨(rd_T35 x4_1 (ji19)).f0, (((rd_T35 x4_1 (ji19)).f1) ++ (⟨#[32]⟩ : ByteArray)) ++ t302⟩ : S35)) t299)) else (none)) else (none)) else (none)) else (none)) = some (r1, r2) := by first | (rw [hji19] at H; exact H) | (simp only [hji19] at H ⊢; exact H)
                      have hji19w : (IntKind.i64.wrap ((x4_1.length : Int) - 1)) = ji19 := (i64_w _).trans hji19
                      by_cases c20 : 0 ≤ (ji19)
                      · rw [if_pos c20] at H
                        have c20b0 : decide (0 ≤ (ji19)) = true := decide_eq_true c20
                        clear c20
                        by_cases c21 : (ji19) < (x4_1.length : Int)
                        · rw [if_pos c21] at H
                          have c21b0 : decide ((ji19) < (x4_1.length : Int)) = true := decide_eq_true c21
                          clear c21
                          by_cases c22 : ((rd_T35 x4_1 (ji19)).f1).size + 1 ≤ 9223372036854775807
                          · rw [if_pos c22] at H
                            have c22b0 := eq_true c22
                            have c22b1 : decide (((rd_T35 x4_1 (ji19)).f1).size + 1 ≤ 9223372036854775807) = true := decide_eq_true c22
                            try have c22b2 : (9223372036854775807 < ((rd_T35 x4_1 (ji19)).f1).size + 1) = False := eq_false (Nat.not_lt.2 c22)
                            by_cases c23 : (((rd_T35 x4_1 (ji19)).f1) ++ (⟨#[32]⟩ : ByteArray)).size + t302.size ≤ 9223372036854775807
                            · rw [if_pos c23] at H
                              have c23b0 := eq_true c23
                              have c23b1 : decide ((((rd_T35 x4_1 (ji19)).f1) ++ (⟨#[32]⟩ : ByteArray)).size + t302.size ≤ 9223372036854775807) = true := decide_eq_true c23
                              try have c23b3 : (9223372036854775807 < ((rd_T35 x4_1 (ji19)).f1).size + 1 + t302.size) = False := eq_false (by have h_ := c23; simp only [ByteArray.size_append] at h_; have z0_ : ((⟨#[32]⟩ : ByteArray)).size = 1 := rfl; omega)
                              try have c23b2 : (9223372036854775807 < (((rd_T35 x4_1 (ji19)).f1) ++ (⟨#[32]⟩ : ByteArray)).size + t302.size) = False := eq_false (Nat.not_lt.2 c23)
                              by_cases c24 : ((((rd_T35 x4_1 (ji19)).f1) ++ (⟨#[32]⟩ : ByteArray)) ++ t302).toList = ([] : List UInt8)
                              · rw [if_pos c24] at H
                                have c24b0 : (((((rd_T35 x4_1 (ji19)).f1) ++ (⟨#[32]⟩ : ByteArray)) ++ t302).toList == ([] : List UInt8)) = true := beq_iff_eq.mpr c24
                                have c24b1 : (((((rd_T35 x4_1 (ji19)).f1) ++ (⟨#[32]⟩ : ByteArray)) ++ t302).toList != ([] : List UInt8)) = false := bne_eq_false_iff_eq.mpr c24
                                clear c24
                                have H' := Aside0.mk H
                                clear H
                                have p304 : 0 ≤ ((ji19) : Int) := of_decide_eq_true (by first | (with_reducible assumption) | assumption)
                                have q304 : (ji19) < (x4_1.length : Int) := of_decide_eq_true (by first | (with_reducible assumption) | assumption)
                                obtain ⟨ad304, e304, hx304_0, hx304_1⟩ := at_T35 (Kd.R_reads' HO_4.out).2.2 (ji19) p304 q304
                                cases e304
                                replace p304 := eq_true p304
                                replace q304 := eq_true q304
                                go_wp2
                                go_roundg kj11
                                case measure => have := HK1.out; have := HJ11.out; omega
                                case rel => exact ⟨(x4_1), (t299), (by first | rfl | (simp; done) | (simp [*]; done)), H', ⟨by have := HK1.out; have := HJ11.out; omega⟩, ⟨by (with_reducible repeat (first | apply Kd.R_alloc | apply Kd.R_drewN | apply Kd.R_drew)); exact HO_4.out⟩, ⟨by repeat (first | (with_reducible first | exact HB.out | apply below_alloc | apply pw_below_drewN | apply below_drew1) | exact HB.out)⟩⟩
                              · rw [if_neg c24] at H
                                have c24b0 : (((((rd_T35 x4_1 (ji19)).f1) ++ (⟨#[32]⟩ : ByteArray)) ++ t302).toList == ([] : List UInt8)) = false := beq_eq_false_iff_ne.mpr c24
                                have c24b1 : (((((rd_T35 x4_1 (ji19)).f1) ++ (⟨#[32]⟩ : ByteArray)) ++ t302).toList != ([] : List UInt8)) = true := bne_iff_ne.mpr c24
                                obtain ⟨y305, hy305⟩ : ∃ y_ : List (S35), y_ = (x4_1.set ((ji19) : Int).toNat (⟨(rd_T35 x4_1 (ji19)).f0, (((rd_T35 x4_1 (ji19)).f1) ++ (⟨#[32]⟩ : ByteArray)) ++ t302⟩ : S35)) := ⟨_, rfl⟩
                                replace H : (missiveref09_Parse.l0 kj11 a0 y305 t299) = some (r1, r2) := by first | (rw [hy305]; with_reducible exact H) | (have H2_ := (Option.bind_some _ _).symm.trans H; rw [hy305]; with_reducible exact H2_) | (have H2_ := (Option.bind_some _ _).symm.trans H; with_reducible exact H2_) | with_reducible exact H | (rw [hy305]; exact H) | exact H
                                have Ny305 := Aside0.mk hy305
                                clear hy305
                                have H' := Aside0.mk H
                                clear H
                                have p304 : 0 ≤ ((ji19) : Int) := of_decide_eq_true (by first | (with_reducible assumption) | assumption)
                                have q304 : (ji19) < (x4_1.length : Int) := of_decide_eq_true (by first | (with_reducible assumption) | assumption)
                                obtain ⟨ad304, e304, hx304_0, hx304_1⟩ := at_T35 (Kd.R_reads' HO_4.out).2.2 (ji19) p304 q304
                                cases e304
                                replace p304 := eq_true p304
                                replace q304 := eq_true q304
                                have p25 : 0 ≤ ((ji19) : Int) := of_decide_eq_true (by first | (with_reducible assumption) | assumption)
                                have q25 : ((ji19) : Int) < ((x4_1.length : Int) : Int) := of_decide_eq_true (by first | (with_reducible assumption) | assumption)
                                obtain ⟨go25, co25, eo25, gb25, gl25, cl25, HG25⟩ := Kd.R_form HO_4.out (by omega)
                                (first | cases eo25 | (injection eo25 with ea_ en_ ec_; (first | subst ea_ | (injection ea_ with ea_; subst ea_)); subst ec_; clear en_))
                                have GB25 := Aside0.mk gb25
                                have GG25 := Aside0.mk HG25
                                clear gb25 gl25 HG25
                                (first | simp only [add_plain] at hx304_0 | skip)
                                (first | simp only [add_plain] at hx304_1 | skip)
                                obtain ⟨ce25, hcl25, hM25, hcc25, hfr25⟩ := Kd.R_elem HO_4.out z35 ((ji19) : Int) p25 q25
                                obtain rfl := k35_openM hM25
                                have hx25_0 : wc.cell? ⟨go25, ((ji19) : Int).toNat * 2, none⟩ = some (.string ((rd_T35 x4_1 (ji19)).f0)) := hcc25 0 _ rfl
                                have hx25_1 : wc.cell? ⟨go25, ((ji19) : Int).toNat * 2 + 1, none⟩ = some (.string ((rd_T35 x4_1 (ji19)).f1)) := hcc25 1 _ rfl
                                have hf25_0 : wc.frozen? ⟨go25, ((ji19) : Int).toNat * 2, none⟩ = false := hfr25 0
                                have hf25_1 : wc.frozen? ⟨go25, ((ji19) : Int).toNat * 2 + 1, none⟩ = false := hfr25 1
                                clear hcl25 hcc25 hfr25 hM25
                                replace p25 := eq_true p25
                                replace q25 := eq_true q25
                                have HX26 := Aside0.mk (show Kd.R k35 35 wc w.heap.size (fun _ => True) (.slice (some ⟨go25, 0, none⟩) x4_1.length co13) x4_1 from (by (with_reducible repeat (first | apply Kd.R_alloc | apply Kd.R_drewN | apply Kd.R_drew)); exact HO_4.out))
                                obtain ⟨ce26, hcl26, hM26, hcc26, hfr26⟩ := Kd.R_elem HX26.out z35 ((ji19) : Int) (of_decide_eq_true (by first | (with_reducible assumption) | assumption)) (by have h_ : ((ji19) : Int) < ((x4_1.length : Int) : Int) := of_decide_eq_true (by first | (with_reducible assumption) | assumption); first | exact h_ | (have e_ := (Kd.R_reads' HO_4.out).1; omega) | simpa using h_)
                                obtain rfl := k35_openM hM26
                                have HP26 := Kd.R_seg HX26.out ((ji19) : Int) (of_decide_eq_true (by first | (with_reducible assumption) | assumption)) (by have h_ : ((ji19) : Int) < ((x4_1.length : Int) : Int) := of_decide_eq_true (by first | (with_reducible assumption) | assumption); first | exact h_ | (have e_ := (Kd.R_reads' HO_4.out).1; omega) | simpa using h_) (seg := [.string ((((rd_T35 x4_1 (ji19)).f1) ++ (⟨#[32]⟩ : ByteArray)) ++ t302)]) (j := 1) hcl26 hcc26 (show 2 ≤ 2 from by decide) (x' := (⟨(rd_T35 x4_1 (ji19)).f0, (((rd_T35 x4_1 (ji19)).f1) ++ (⟨#[32]⟩ : ByteArray)) ++ t302⟩ : S35)) (k35_mkM _ _ _ (⟨(rd_T35 x4_1 (ji19)).f0, (((rd_T35 x4_1 (ji19)).f1) ++ (⟨#[32]⟩ : ByteArray)) ++ t302⟩ : S35) ) (fun _ hk => hk)
                                have hx26_1 := hcc26 1 _ rfl
                                (try simp only [show (k35).sz = 2 from rfl, Nat.mul_one, Nat.add_zero] at hx26_1)
                                have hf26_1 := hfr26 1
                                (try simp only [show (k35).sz = 2 from rfl, Nat.mul_one, Nat.add_zero] at hf26_1)
                                clear hcl26 hcc26 hfr26 hM26
                                go_wp2_with (first | ((with_reducible refine gate_store (t := 9) (p := 63) rfl ?_); refine store_event (t := 9) (p := 63) (v := ?vo_w27) (w1 := (wc.setCell ⟨go25, ((ji19) : Int).toNat * 2 + 1, none⟩ (.string ((((rd_T35 x4_1 (ji19)).f1) ++ (⟨#[32]⟩ : ByteArray)) ++ t302)))) ?hg ?ho ?hn ?hr ?_; (case ho => rfl); (case hg => rfl); (case hn => rfl); (case hr => first | (go_simp; done) | (go_simp; rfl)); intro w27 hw; have hg : wc.grownBy w27 (some go25) := (by rw [hw]; exact HP26.2); have hp_ : Kd.R k35 35 w27 w.heap.size (fun _ => True) (.slice (some ⟨go25, 0, none⟩) x4_1.length co13) y305 := (by rw [hw, Ny305.out]; exact HP26.1); clear HP26; have n0_ := Aside0.mk (hp_); have n1_ := Aside0.mk ((by rw [hw]; exact below_set (HB.out) GB25.out : Below w.heap.size w w27)); clear HO_4; clear HB; have HO_4 := n0_; have HB := n1_; clear n0_ n1_; clear hg hw hp_))
                                go_roundg kj11
                                case measure => have := HK1.out; have := HJ11.out; omega
                                case rel => exact ⟨(y305), (t299), (by first | rfl | (simp; done) | (simp [*]; done)), H', ⟨by have := HK1.out; have := HJ11.out; omega⟩, ⟨by (with_reducible repeat (first | apply Kd.R_alloc | apply Kd.R_drewN | apply Kd.R_drew)); exact HO_4.out⟩, ⟨by repeat (first | (with_reducible first | exact HB.out | apply below_alloc | apply pw_below_drewN | apply below_drew1) | exact HB.out)⟩⟩
                            · rw [if_neg c23] at H
                              exact absurd H (by simp)
                          · rw [if_neg c22] at H
                            exact absurd H (by simp)
                        · rw [if_neg c21] at H
                          exact absurd H (by simp)
                      · rw [if_neg c20] at H
                        exact absurd H (by simp)
                    · replace c18 := Bool.eq_false_iff.mpr c18
                      subst c18
                      have H1 : (if t302.toList = ([] : List UInt8) then (missiveref09_Parse.l0 kj11 a0 x4_1 t299) else (if 0 ≤ (wrap64 ((x4_1.length : Int) - 1)) then (if (wrap64 ((x4_1.length : Int) - 1)) < (x4_1.length : Int) then (missiveref09_Parse.l0 kj11 a0 (x4_1.set ((wrap64 ((x4_1.length : Int) - 1)) : Int).toNat (⟨(rd_T35 x4_1 (wrap64 ((x4_1.length : Int) - 1))).f0, t302⟩ : S35)) t299) else (none)) else (none))) = some (r1, r2) := by rw [if_neg (show ¬ (false = true) by decide)] at H; exact H
                      clear H
                      have H := H1
                      clear H1
                      by_cases c28 : t302.toList = ([] : List UInt8)
                      · rw [if_pos c28] at H
                        have c28b0 : (t302.toList == ([] : List UInt8)) = true := beq_iff_eq.mpr c28
                        have c28b1 : (t302.toList != ([] : List UInt8)) = false := bne_eq_false_iff_eq.mpr c28
                        clear c28
                        have H' := Aside0.mk H
                        clear H
                        go_wp2
                        go_roundg kj11
                        case measure => have := HK1.out; have := HJ11.out; omega
                        case rel => exact ⟨(x4_1), (t299), (by first | rfl | (simp; done) | (simp [*]; done)), H', ⟨by have := HK1.out; have := HJ11.out; omega⟩, ⟨by (with_reducible repeat (first | apply Kd.R_alloc | apply Kd.R_drewN | apply Kd.R_drew)); exact HO_4.out⟩, ⟨by repeat (first | (with_reducible first | exact HB.out | apply below_alloc | apply pw_below_drewN | apply below_drew1) | exact HB.out)⟩⟩
                      · rw [if_neg c28] at H
                        have c28b0 : (t302.toList == ([] : List UInt8)) = false := beq_eq_false_iff_ne.mpr c28
                        have c28b1 : (t302.toList != ([] : List UInt8)) = true := bne_iff_ne.mpr c28
                        obtain ⟨ji29, hji29⟩ : ∃ j_ : Int, (wrap64 ((x4_1.length : Int) - 1)) = j_ := ⟨_, rfl⟩
                        replace H : (if 0 ≤ (ji29) then (if (ji29) < (x4_1.length : Int) then (missiveref09_Parse.l0 kj11 a0 (x4_1.set ((ji29) : Int).toNat (⟨(rd_T35 x4_1 (ji29)).f0, t302⟩ : S35)) t299) else (none)) else (none)) = some (r1, r2) := by first | (rw [hji29] at H; exact H) | (simp only [hji29] at H ⊢; exact H)
                        have hji29w : (IntKind.i64.wrap ((x4_1.length : Int) - 1)) = ji29 := (i64_w _).trans hji29
                        by_cases c30 : 0 ≤ (ji29)
                        · rw [if_pos c30] at H
                          have c30b0 : decide (0 ≤ (ji29)) = true := decide_eq_true c30
                          clear c30
                          by_cases c31 : (ji29) < (x4_1.length : Int)
                          · rw [if_pos c31] at H
                            have c31b0 : decide ((ji29) < (x4_1.length : Int)) = true := decide_eq_true c31
                            clear c31
                            obtain ⟨y306, hy306⟩ : ∃ y_ : List (S35), y_ = (x4_1.set ((ji29) : Int).toNat (⟨(rd_T35 x4_1 (ji29)).f0, t302⟩ : S35)) := ⟨_, rfl⟩
                            replace H : (missiveref09_Parse.l0 kj11 a0 y306 t299) = some (r1, r2) := by first | (rw [hy306]; with_reducible exact H) | (have H2_ := (Option.bind_some _ _).symm.trans H; rw [hy306]; with_reducible exact H2_) | (have H2_ := (Option.bind_some _ _).symm.trans H; with_reducible exact H2_) | with_reducible exact H | (rw [hy306]; exact H) | exact H
                            have Ny306 := Aside0.mk hy306
                            clear hy306
                            have H' := Aside0.mk H
                            clear H
                            have p32 : 0 ≤ ((ji29) : Int) := of_decide_eq_true (by first | (with_reducible assumption) | assumption)
                            have q32 : ((ji29) : Int) < ((x4_1.length : Int) : Int) := of_decide_eq_true (by first | (with_reducible assumption) | assumption)
                            obtain ⟨go32, co32, eo32, gb32, gl32, cl32, HG32⟩ := Kd.R_form HO_4.out (by omega)
                            (first | cases eo32 | (injection eo32 with ea_ en_ ec_; (first | subst ea_ | (injection ea_ with ea_; subst ea_)); subst ec_; clear en_))
                            have GB32 := Aside0.mk gb32
                            have GG32 := Aside0.mk HG32
                            clear gb32 gl32 HG32
                            obtain ⟨ce32, hcl32, hM32, hcc32, hfr32⟩ := Kd.R_elem HO_4.out z35 ((ji29) : Int) p32 q32
                            obtain rfl := k35_openM hM32
                            have hx32_0 : wc.cell? ⟨go32, ((ji29) : Int).toNat * 2, none⟩ = some (.string ((rd_T35 x4_1 (ji29)).f0)) := hcc32 0 _ rfl
                            have hx32_1 : wc.cell? ⟨go32, ((ji29) : Int).toNat * 2 + 1, none⟩ = some (.string ((rd_T35 x4_1 (ji29)).f1)) := hcc32 1 _ rfl
                            have hf32_0 : wc.frozen? ⟨go32, ((ji29) : Int).toNat * 2, none⟩ = false := hfr32 0
                            have hf32_1 : wc.frozen? ⟨go32, ((ji29) : Int).toNat * 2 + 1, none⟩ = false := hfr32 1
                            clear hcl32 hcc32 hfr32 hM32
                            replace p32 := eq_true p32
                            replace q32 := eq_true q32
                            have HX33 := Aside0.mk (show Kd.R k35 35 wc w.heap.size (fun _ => True) (.slice (some ⟨go32, 0, none⟩) x4_1.length co13) x4_1 from (by (with_reducible repeat (first | apply Kd.R_alloc | apply Kd.R_drewN | apply Kd.R_drew)); exact HO_4.out))
                            obtain ⟨ce33, hcl33, hM33, hcc33, hfr33⟩ := Kd.R_elem HX33.out z35 ((ji29) : Int) (of_decide_eq_true (by first | (with_reducible assumption) | assumption)) (by have h_ : ((ji29) : Int) < ((x4_1.length : Int) : Int) := of_decide_eq_true (by first | (with_reducible assumption) | assumption); first | exact h_ | (have e_ := (Kd.R_reads' HO_4.out).1; omega) | simpa using h_)
                            obtain rfl := k35_openM hM33
                            have HP33 := Kd.R_seg HX33.out ((ji29) : Int) (of_decide_eq_true (by first | (with_reducible assumption) | assumption)) (by have h_ : ((ji29) : Int) < ((x4_1.length : Int) : Int) := of_decide_eq_true (by first | (with_reducible assumption) | assumption); first | exact h_ | (have e_ := (Kd.R_reads' HO_4.out).1; omega) | simpa using h_) (seg := [.string t302]) (j := 1) hcl33 hcc33 (show 2 ≤ 2 from by decide) (x' := (⟨(rd_T35 x4_1 (ji29)).f0, t302⟩ : S35)) (k35_mkM _ _ _ (⟨(rd_T35 x4_1 (ji29)).f0, t302⟩ : S35) ) (fun _ hk => hk)
                            have hx33_1 := hcc33 1 _ rfl
                            (try simp only [show (k35).sz = 2 from rfl, Nat.mul_one, Nat.add_zero] at hx33_1)
                            have hf33_1 := hfr33 1
                            (try simp only [show (k35).sz = 2 from rfl, Nat.mul_one, Nat.add_zero] at hf33_1)
                            clear hcl33 hcc33 hfr33 hM33
                            go_wp2_with (first | ((with_reducible refine gate_store (t := 9) (p := 63) rfl ?_); refine store_event (t := 9) (p := 63) (v := ?vo_w34) (w1 := (wc.setCell ⟨go32, ((ji29) : Int).toNat * 2 + 1, none⟩ (.string t302))) ?hg ?ho ?hn ?hr ?_; (case ho => rfl); (case hg => rfl); (case hn => rfl); (case hr => first | (go_simp; done) | (go_simp; rfl)); intro w34 hw; have hg : wc.grownBy w34 (some go32) := (by rw [hw]; exact HP33.2); have hp_ : Kd.R k35 35 w34 w.heap.size (fun _ => True) (.slice (some ⟨go32, 0, none⟩) x4_1.length co13) y306 := (by rw [hw, Ny306.out]; exact HP33.1); clear HP33; have n0_ := Aside0.mk (hp_); have n1_ := Aside0.mk ((by rw [hw]; exact below_set (HB.out) GB32.out : Below w.heap.size w w34)); clear HO_4; clear HB; have HO_4 := n0_; have HB := n1_; clear n0_ n1_; clear hg hw hp_))
                            go_roundg kj11
                            case measure => have := HK1.out; have := HJ11.out; omega
                            case rel => exact ⟨(y306), (t299), (by first | rfl | (simp; done) | (simp [*]; done)), H', ⟨by have := HK1.out; have := HJ11.out; omega⟩, ⟨by (with_reducible repeat (first | apply Kd.R_alloc | apply Kd.R_drewN | apply Kd.R_drew)); exact HO_4.out⟩, ⟨by repeat (first | (with_reducible first | exact HB.out | apply below_alloc | apply pw_below_drewN | apply below_drew1) | exact HB.out)⟩⟩
                          · rw [if_neg c31] at H
                            exact absurd H (by simp)
                        · rw [if_neg c30] at H
                          exact absurd H (by simp)
            · replace c8 := Bool.eq_false_iff.mpr c8
              subst c8
              have H1 : ((missiveref09_colon.f k1 t300).bind fun t307 => (if t307 < 0 then (missiveref09_Parse.j2 k1 a0 x4_1 x5_1 t299 t300 t307 true) else (missiveref09_Parse.j2 k1 a0 x4_1 x5_1 t299 t300 t307 (decide ((x4_1.length : Int) ≥ 400))))) = some (r1, r2) := by rw [if_neg (show ¬ (false = true) by decide)] at H; exact H
              clear H
              have H := H1
              clear H1
              replace H := Option.bind_eq_some_iff.mp H
              obtain ⟨t307, A350, H⟩ := H
              replace H : (if t307 < 0 then (missiveref09_Parse.j2 k1 a0 x4_1 x5_1 t299 t300 t307 true) else (missiveref09_Parse.j2 k1 a0 x4_1 x5_1 t299 t300 t307 (decide ((x4_1.length : Int) ≥ 400)))) = some (r1, r2) := H
              have A35 := Aside0.mk A350
              clear A350
              have HC36 := Aside0.mk H
              clear H
              go_upto_region 18 with (first | ((with_reducible refine gate_callee (f := 65) rfl ?_); refine goesL_ (some 18) rfl rfl Tryz.func65 (by kernel_rfl) rfl #[.string a0, .int .i64 x5_1] rfl (by (try simp only [List.map_toArray, List.map_cons, List.map_nil]); first | done | rfl | (simp only [List.length_drop, List.length_take]; rfl)) ?_; (with_reducible refine (missiveref09_end.calls k1 a0 x5_1 t299 t300 _ A3.out).mono ?_); rintro e w' ⟨rfl, ⟨nd, rfl⟩⟩; refine ⟨_, rfl, ?_⟩; obtain ⟨Ao37, co37, eo37⟩ := Kd.R_slice HO_4.out; subst eo37; have p6 : 0 ≤ (0 : Int) := (by omega); have q6 : 0 < t300.size := (by have : (0 : Int) < (t300.size : Int) := of_decide_eq_true (by first | (with_reducible assumption) | assumption); omega); have hx6 : ∀ h : 0 < t300.size, ((t300[0]'h).toNat : Int) = bt t300 0 := bt_at t300 0; clear p6; have qi6 : (0 < (t300.size : Int)) = True := eq_true (of_decide_eq_true (by first | (with_reducible assumption) | assumption)); replace q6 := eq_true q6) | ((with_reducible refine gate_callee (f := 64) rfl ?_); refine goesL_ (some 29) rfl rfl Tryz.func64 (by kernel_rfl) rfl #[.int .u8 (bt t300 0)] rfl (by (try simp only [List.map_toArray, List.map_cons, List.map_nil]); first | done | rfl | (simp only [List.length_drop, List.length_take]; rfl)) ?_; (with_reducible refine (missiveref09_white.calls (bt t300 0) false _ A7.out).mono ?_); rintro e w' ⟨rfl, ⟨nd, rfl⟩⟩; refine ⟨_, rfl, ?_⟩) | ((with_reducible refine gate_callee (f := 66) rfl ?_); refine goesL_ (some 66) rfl rfl Tryz.func66 (by kernel_rfl) rfl #[.string t300] rfl (by (try simp only [List.map_toArray, List.map_cons, List.map_nil]); first | done | rfl | (simp only [List.length_drop, List.length_take]; rfl)) ?_; (with_reducible refine (missiveref09_colon.calls k1 t300 t307 _ A35.out).mono ?_); rintro e w' ⟨rfl, ⟨nd, rfl⟩⟩; refine ⟨_, rfl, ?_⟩))
              (try simp only [Act.put, List.setIfInBounds_toArray, List.set_cons_zero, List.set_cons_succ])
              go_cut [72] (fun v72 wc => ∃ (kq : Nat) (x72_35 : Bool), v72 = .bool x72_35 ∧ Aside0 (missiveref09_Parse.j2 kq a0 x4_1 x5_1 t299 t300 t307 x72_35 = some (r1, r2)) ∧ Aside0 (kq ≤ k1) ∧ Aside0 (Kd.R k35 35 wc w.heap.size (fun _ => True) (.slice Ao37 x4_1.length co37) x4_1) ∧ Aside0 (Below w.heap.size w wc))
              case first =>
                have H := HC36.out
                clear HC36
                by_cases c38 : t307 < 0
                · rw [if_pos c38] at H
                  have c38b0 : decide (t307 < 0) = true := decide_eq_true c38
                  clear c38
                  (first | rw [c38b0] | (simp only [i64_w, i32_w]; rw [c38b0]) | skip)
                  have H' := Aside0.mk H
                  clear H
                  go_wp2
                  go_meet
                  case rel => exact ⟨_, (true), (by first | rfl | (simp; done) | (simp [*]; done)), H', ⟨by have := HK1.out; first | omega | exact Nat.le_refl _⟩, ⟨by (with_reducible repeat (first | apply Kd.R_alloc | apply Kd.R_drewN | apply Kd.R_drew)); exact HO_4.out⟩, ⟨by repeat (first | (with_reducible first | exact HB.out | apply below_alloc | apply pw_below_drewN | apply below_drew1) | exact HB.out)⟩⟩
                · rw [if_neg c38] at H
                  have c38b0 : decide (t307 < 0) = false := decide_eq_false c38
                  clear c38
                  (first | rw [c38b0] | (simp only [i64_w, i32_w]; rw [c38b0]) | skip)
                  have H' := Aside0.mk H
                  clear H
                  go_wp2
                  go_meet
                  case rel => exact ⟨_, (decide ((x4_1.length : Int) ≥ 400)), (by first | rfl | (simp; done) | (simp [*]; done)), H', ⟨by have := HK1.out; first | omega | exact Nat.le_refl _⟩, ⟨by (with_reducible repeat (first | apply Kd.R_alloc | apply Kd.R_drewN | apply Kd.R_drew)); exact HO_4.out⟩, ⟨by repeat (first | (with_reducible first | exact HB.out | apply below_alloc | apply pw_below_drewN | apply below_drew1) | exact HB.out)⟩⟩
              case rest =>
                clear HC36
                try clear c1
                try clear c2
                try clear c2b0
                try clear p2
                try clear q2
                try clear hx2
                try clear hf2
                try clear c3
                try clear p3
                try clear q3
                try clear hx3
                try clear hf3
                try clear c4
                try clear c4b0
                try clear c4b1
                try clear c5
                try clear c5b0
                try clear c5b1
                try clear c6
                try clear p6
                try clear q6
                try clear hx6
                try clear qi6
                try clear c8
                try clear c9
                try clear c9b0
                try clear c9b1
                try clear c9b2
                try clear c14
                try clear c14b0
                try clear c14b1
                try clear c16
                try clear c16b0
                try clear c17
                try clear c17b0
                try clear c18
                try clear c20
                try clear c20b0
                try clear c21
                try clear c21b0
                try clear c22
                try clear c22b0
                try clear c22b1
                try clear c22b2
                try clear c23
                try clear c23b0
                try clear c23b1
                try clear c23b2
                try clear c24
                try clear c24b0
                try clear c24b1
                try clear c25
                try clear p25
                try clear q25
                try clear hx25
                try clear hf25
                try clear c26
                try clear hx26
                try clear hf26
                try clear c28
                try clear c28b0
                try clear c28b1
                try clear c30
                try clear c30b0
                try clear p30
                try clear q30
                try clear hx30
                try clear c31
                try clear c31b0
                try clear c32
                try clear p32
                try clear q32
                try clear hx32
                try clear hf32
                try clear c33
                try clear hx33
                try clear hf33
                try clear c38
                try clear c38b0
                try clear hx25_0
                try clear hx25_1
                try clear hx26_1
                try clear hx303_0
                try clear hx303_1
                try clear hx304_0
                try clear hx304_1
                try clear hx32_0
                try clear hx32_1
                try clear hx33_1
                try clear p2
                try clear p25
                try clear p3
                try clear p303
                try clear p304
                try clear p32
                try clear p6
                try clear q25
                try clear q3
                try clear q303
                try clear q304
                try clear q32
                try clear q6
                obtain ⟨kq, x72_35, rfl, HA, HJ35, HO_4, HB⟩ := hcut
                cases kq with
                | zero => exact absurd HA.out (by simp [missiveref09_Parse.j2])
                | succ kj35 =>
                  have H := HA.out
                  clear HA
                  simp only [missiveref09_Parse.j2] at H
                  by_cases c39 : x72_35 = true
                  · subst c39
                    have H1 : (some (x4_1, x5_1)) = some (r1, r2) := by rw [if_pos rfl] at H; exact H
                    clear H
                    have H := H1
                    clear H1
                    simp only [Option.some.injEq, Prod.mk.injEq] at H
                    obtain ⟨rfl, rfl⟩ := H
                    go_wp2
                    go_ret2
                    exact ⟨_, by first | rfl | (simp [errW_none, errW_some]; done) | (simp [errW_none, errW_some]; exact isEmpty_nbne _) | (simp [errW_none, errW_some]; exact isEmpty_bne _) | (simp [errW_none, errW_some] <;> rfl) | (simp [*, errW_none, errW_some] <;> rfl), by (with_reducible repeat (first | apply Kd.R_alloc | apply Kd.R_drewN | apply Kd.R_drew)); exact HO_4.out, by repeat (first | (with_reducible first | exact HB.out | apply below_alloc | apply pw_below_drewN | apply below_drew1) | exact HB.out)⟩
                  · replace c39 := Bool.eq_false_iff.mpr c39
                    subst c39
                    have H1 : (if 0 ≤ t307 then (if t307 ≤ (t300.size : Int) then ((missiveref09_Named.f kj35 (t300.extract 0 (t307 : Int).toNat)).bind fun t308 => (if t308 = true then (if 0 ≤ (wrap64 (t307 + 1)) then (if (wrap64 (t307 + 1)) ≤ (t300.size : Int) then ((missiveref01_Trim.f kj35 (t300.extract ((wrap64 (t307 + 1)) : Int).toNat t300.size)).bind fun t309 => (if x4_1.length < 4398046511104 then (missiveref09_Parse.l0 kj35 a0 (x4_1 ++ [(⟨t300.extract 0 (t307 : Int).toNat, t309⟩ : S35)]) t299) else (none))) else (none)) else (none)) else (some (x4_1, x5_1)))) else (none)) else (none)) = some (r1, r2) := by rw [if_neg (show ¬ (false = true) by decide)] at H; exact H
                    clear H
                    have H := H1
                    clear H1
                    by_cases c40 : 0 ≤ t307
                    · rw [if_pos c40] at H
                      have c40b0 := eq_true c40
                      have c40b1 : decide (0 ≤ t307) = true := decide_eq_true c40
                      clear c40
                      by_cases c41 : t307 ≤ (t300.size : Int)
                      · rw [if_pos c41] at H
                        have c41b0 := eq_true c41
                        have c41b1 : decide (t307 ≤ (t300.size : Int)) = true := decide_eq_true c41
                        clear c41
                        replace H := Option.bind_eq_some_iff.mp H
                        obtain ⟨t308, A420, H⟩ := H
                        replace H : (if t308 = true then (if 0 ≤ (wrap64 (t307 + 1)) then (if (wrap64 (t307 + 1)) ≤ (t300.size : Int) then ((missiveref01_Trim.f kj35 (t300.extract ((wrap64 (t307 + 1)) : Int).toNat t300.size)).bind fun t309 => (if x4_1.length < 4398046511104 then (missiveref09_Parse.l0 kj35 a0 (x4_1 ++ [(⟨t300.extract 0 (t307 : Int).toNat, t309⟩ : S35)]) t299) else (none))) else (none)) else (none)) else (some (x4_1, x5_1))) = some (r1, r2) := H
                        have A42 := Aside0.mk A420
                        clear A420
                        by_cases c43 : t308 = true
                        · subst c43
                          have H1 : (if 0 ≤ (wrap64 (t307 + 1)) then (if (wrap64 (t307 + 1)) ≤ (t300.size : Int) then ((missiveref01_Trim.f kj35 (t300.extract ((wrap64 (t307 + 1)) : Int).toNat t300.size)).bind fun t309 => (if x4_1.length < 4398046511104 then (missiveref09_Parse.l0 kj35 a0 (x4_1 ++ [(⟨t300.extract 0 (t307 : Int).toNat, t309⟩ : S35)]) t299) else (none))) else (none)) else (none)) = some (r1, r2) := by rw [if_pos rfl] at H; exact H
                          clear H
                          have H := H1
                          clear H1
                          have c44b0 := eq_true (of_decide_eq_true (by first | (with_reducible assumption) | assumption) : 0 ≤ t307)
                          have c45b0 := eq_true (of_decide_eq_true (by first | (with_reducible assumption) | assumption) : t307 ≤ (t300.size : Int))
                          obtain ⟨ji46, hji46⟩ : ∃ j_ : Int, (wrap64 (t307 + 1)) = j_ := ⟨_, rfl⟩
                          replace H : (if 0 ≤ (ji46) then (if (ji46) ≤ (t300.size : Int) then ((missiveref01_Trim.f kj35 (t300.extract ((ji46) : Int).toNat t300.size)).bind fun t309 => (if x4_1.length < 4398046511104 then (missiveref09_Parse.l0 kj35 a0 (x4_1 ++ [(⟨t300.extract 0 (t307 : Int).toNat, t309⟩ : S35)]) t299) else (none))) else (none)) else (none)) = some (r1, r2) := by first | (rw [hji46] at H; exact H) | (simp only [hji46] at H ⊢; exact H)
                          (try rw [hji46] at A42)
                          have hji46w : (IntKind.i64.wrap (t307 + 1)) = ji46 := (i64_w _).trans hji46
                          by_cases c47 : 0 ≤ (ji46)
                          · rw [if_pos c47] at H
                            have c47b0 := eq_true c47
                            have c47b1 : decide (0 ≤ (ji46)) = true := decide_eq_true c47
                            clear c47
                            by_cases c48 : (ji46) ≤ (t300.size : Int)
                            · rw [if_pos c48] at H
                              have c48b0 := eq_true c48
                              have c48b1 : decide ((ji46) ≤ (t300.size : Int)) = true := decide_eq_true c48
                              clear c48
                              replace H := Option.bind_eq_some_iff.mp H
                              obtain ⟨t309, A490, H⟩ := H
                              replace H : (if x4_1.length < 4398046511104 then (missiveref09_Parse.l0 kj35 a0 (x4_1 ++ [(⟨t300.extract 0 (t307 : Int).toNat, t309⟩ : S35)]) t299) else (none)) = some (r1, r2) := H
                              have A49 := Aside0.mk A490
                              clear A490
                              by_cases c50 : x4_1.length < 4398046511104
                              · rw [if_pos c50] at H
                                have LMc50 := Aside0.mk c50
                                clear c50
                                obtain ⟨y310, hy310⟩ : ∃ y_ : List (S35), y_ = (x4_1 ++ [(⟨t300.extract 0 (t307 : Int).toNat, t309⟩ : S35)]) := ⟨_, rfl⟩
                                replace H : (missiveref09_Parse.l0 kj35 a0 y310 t299) = some (r1, r2) := by first | (rw [hy310]; with_reducible exact H) | (have H2_ := (Option.bind_some _ _).symm.trans H; rw [hy310]; with_reducible exact H2_) | (have H2_ := (Option.bind_some _ _).symm.trans H; with_reducible exact H2_) | with_reducible exact H | (rw [hy310]; exact H) | exact H
                                have Ny310 := Aside0.mk hy310
                                clear hy310
                                have H' := Aside0.mk H
                                clear H
                                try go_wp2_with (first | ((with_reducible refine gate_callee (f := 19) rfl ?_); refine goesL_ (some 78) rfl rfl Tryz.func19 (by kernel_rfl) rfl #[.string (t300.extract 0 (t307 : Int).toNat)] rfl (by (try simp only [List.map_toArray, List.map_cons, List.map_nil]); first | done | rfl | (simp only [List.length_drop, List.length_take]; rfl)) ?_; (with_reducible refine (missiveref09_Named.calls kj35 (t300.extract 0 (t307 : Int).toNat) true _ A42.out).mono ?_); rintro e w' ⟨rfl, ⟨nd, rfl⟩⟩; refine ⟨_, rfl, ?_⟩))
                                (try (rw [drewN_self wc]; generalize hq_ : World.drewN wc _ = wc; have n0_ : Aside0 (Kd.R k35 35 wc w.heap.size (fun _ => True) (.slice Ao37 x4_1.length co37) x4_1) := ⟨by rw [← hq_]; exact (by (with_reducible repeat (first | apply Kd.R_alloc | apply Kd.R_drewN | apply Kd.R_drew)); exact HO_4.out)⟩; have n1_ : Aside0 (Below w.heap.size w wc) := ⟨by rw [← hq_]; exact (by repeat (first | (with_reducible first | exact HB.out | apply below_alloc | apply pw_below_drewN | apply below_drew1) | exact HB.out))⟩; clear HO_4 HB hq_; have HO_4 := n0_; have HB := n1_; clear n0_ n1_))
                                have n0_ := Aside0.mk (Kd.R_drew HO_4.out)
                                have n1_ := Aside0.mk (below_drew1 HB.out)
                                clear HO_4
                                clear HB
                                have HO_4 := n0_
                                have HB := n1_
                                clear n0_ n1_
                                refine start_ (n := 13) (S := fun w' => True) (ds := []) #[false, false, false, false, false, false, false, false, false, false, false, false, false] (by kernel_rfl) rfl rfl trivial (fun hHeld => ?_); refine with_tabW missiveref09_Parse.tab22 missiveref09_Parse.bits22 (fun HT_ HW_ => ?_)
                                generalize wc.drew = w51 at HO_4 HB hHeld ⊢
                                refine pure_ (i := 0) (N := some 82) (v := ?_) (a' := ?_) #[true, false, false, false, false, false, false, false, false, false, false, false, false] rfl rfl (any_of HT_.out (by kernel_rfl)) (fun _ _ _ h => h) (Or.inl ⟨by rfl, ?_⟩) ?_ ?_
                                rotate_left
                                · intro w'
                                  go_simp
                                  with_reducible rfl
                                rotate_left
                                · simp only [Act.put, List.setIfInBounds_toArray, List.set_cons_zero, List.set_cons_succ, i64_w, i32_w]
                                  rfl
                                refine pure_ (i := 1) (N := some 83) (v := ?_) (a' := ?_) #[true, true, false, false, false, false, false, false, false, false, false, false, false] rfl rfl (any_of HT_.out (by kernel_rfl)) (fun _ _ _ h => h) (Or.inl ⟨by rfl, ?_⟩) ?_ ?_
                                rotate_left
                                · intro w'
                                  go_simp
                                  with_reducible rfl
                                rotate_left
                                · simp only [Act.put, List.setIfInBounds_toArray, List.set_cons_zero, List.set_cons_succ, i64_w, i32_w]
                                  rfl
                                refine pure_ (i := 2) (N := some 84) (v := ?_) (a' := ?_) #[true, true, true, false, false, false, false, false, false, false, false, false, false] rfl rfl (any_of HT_.out (by kernel_rfl)) (fun _ _ _ h => h) (Or.inl ⟨by rfl, ?_⟩) ?_ ?_
                                rotate_left
                                · intro w'
                                  go_simp
                                  with_reducible rfl
                                rotate_left
                                · simp only [Act.put, List.setIfInBounds_toArray, List.set_cons_zero, List.set_cons_succ, i64_w, i32_w]
                                  rfl
                                refine pure_ (i := 3) (N := some 85) (v := ?_) (a' := ?_) #[true, true, true, true, false, false, false, false, false, false, false, false, false] rfl rfl (any_of HT_.out (by kernel_rfl)) (fun _ _ _ h => h) (Or.inl ⟨by rfl, ?_⟩) ?_ ?_
                                rotate_left
                                · intro w'
                                  go_simp
                                  with_reducible rfl
                                rotate_left
                                · simp only [Act.put, List.setIfInBounds_toArray, List.set_cons_zero, List.set_cons_succ, i64_w, i32_w]
                                  rfl
                                refine pure_ (i := 4) (N := some 86) (v := ?_) (a' := ?_) #[true, true, true, true, true, false, false, false, false, false, false, false, false] rfl rfl (any_of HT_.out (by kernel_rfl)) (fun _ _ _ h => h) (Or.inl ⟨by rfl, ?_⟩) ?_ ?_
                                rotate_left
                                · intro w'
                                  go_simp
                                  with_reducible rfl
                                rotate_left
                                · simp only [Act.put, List.setIfInBounds_toArray, List.set_cons_zero, List.set_cons_succ, i64_w, i32_w]
                                  rfl
                                refine pure_ (i := 5) (N := some 87) (v := ?_) (a' := ?_) #[true, true, true, true, true, true, false, false, false, false, false, false, false] rfl rfl (any_of HT_.out (by kernel_rfl)) (fun _ _ _ h => h) (Or.inl ⟨by rfl, ?_⟩) ?_ ?_
                                rotate_left
                                · intro w'
                                  go_simp
                                  with_reducible rfl
                                rotate_left
                                · simp only [Act.put, List.setIfInBounds_toArray, List.set_cons_zero, List.set_cons_succ, i64_w, i32_w]
                                  rfl
                                refine pure_ (i := 6) (N := some 88) (v := ?_) (a' := ?_) #[true, true, true, true, true, true, true, false, false, false, false, false, false] rfl rfl (any_of HT_.out (by kernel_rfl)) (fun _ _ _ h => h) (Or.inl ⟨by rfl, ?_⟩) ?_ ?_
                                rotate_left
                                · intro w'
                                  go_simp
                                  with_reducible rfl
                                rotate_left
                                · simp only [Act.put, List.setIfInBounds_toArray, List.set_cons_zero, List.set_cons_succ, i64_w, i32_w]
                                  rfl
                                refine pure_ (i := 7) (N := some 89) (v := ?_) (a' := ?_) #[true, true, true, true, true, true, true, true, false, false, false, false, false] rfl rfl (any_of HT_.out (by kernel_rfl)) (fun _ _ _ h => h) (Or.inl ⟨by rfl, ?_⟩) ?_ ?_
                                rotate_left
                                · intro w'
                                  go_simp
                                  with_reducible rfl
                                rotate_left
                                · simp only [Act.put, List.setIfInBounds_toArray, List.set_cons_zero, List.set_cons_succ, i64_w, i32_w]
                                  rfl
                                refine one_ (i := 8) (N := some 90) #[true, true, true, true, true, true, true, true, true, false, false, false, false] rfl rfl (one_of HT_.out (by kernel_rfl)) (by decide) (fun K hK => ?_)
                                refine goes_ Tryz.func45 (by kernel_rfl) rfl #[.string (t300.extract ((ji46) : Int).toNat t300.size)] (by rfl) rfl rfl (by (try simp only [List.map_toArray, List.map_cons, List.map_nil]); first | done | (simp only [hji46]; rfl) | rfl | (simp only [List.length_drop, List.length_take]; rfl)) ?_
                                with_reducible refine (missiveref01_Trim.calls kj35 (t300.extract ((ji46) : Int).toNat t300.size) t309 _ A49.out).mono ?_
                                rintro e w' ⟨rfl, ⟨nd, rfl⟩⟩
                                refine ⟨_, rfl, ?_⟩
                                refine hK.out _ _ trivial (fun hHeld => ?_)
                                clear hK K
                                refine norm_ (a' := ?_) ?_ ?_
                                rotate_left
                                · show Act.put _ (some 90) _ = _
                                  simp only [Act.put, List.setIfInBounds_toArray, List.set_cons_zero, List.set_cons_succ, i64_w, i32_w]
                                  rfl
                                refine pure_ (i := 9) (N := some 91) (v := ?_) (a' := ?_) #[true, true, true, true, true, true, true, true, true, true, false, false, false] rfl rfl (any_of HT_.out (by kernel_rfl)) (fun _ _ _ h => h) (Or.inl ⟨by rfl, ?_⟩) ?_ ?_
                                rotate_left
                                · intro w'
                                  go_simp
                                  with_reducible rfl
                                rotate_left
                                · simp only [Act.put, List.setIfInBounds_toArray, List.set_cons_zero, List.set_cons_succ, i64_w, i32_w]
                                  rfl
                                refine one_ (i := 10) (N := some 92) #[true, true, true, true, true, true, true, true, true, true, true, false, false] rfl rfl (one_of HT_.out (by kernel_rfl)) (by decide) (fun K hK => ?_)
                                refine value_ (w1 := ?_) (v := ?_) (by rfl) rfl ?_ ?_
                                rotate_left 2
                                · go_simp
                                  constructor
                                  · rfl
                                  · rfl
                                refine hK.out _ _ trivial (fun hHeld => ?_)
                                clear hK K
                                refine norm_ (a' := ?_) ?_ ?_
                                rotate_left
                                · show Act.put _ (some 92) _ = _
                                  simp only [Act.put, List.setIfInBounds_toArray, List.set_cons_zero, List.set_cons_succ, i64_w, i32_w]
                                  rfl
                                refine one_ (i := 11) (N := some 93) #[true, true, true, true, true, true, true, true, true, true, true, true, false] rfl rfl (one_of HT_.out (by kernel_rfl)) (by decide) (fun K hK => ?_)
                                refine Kd.R_append_step k35 (w0 := w) w.heap.size (by rfl) (.tmp 82) (.tmp 92) 33 35 (.agg #[(.string ⟨#[]⟩), (.string ⟨#[]⟩)]) 32 rfl Tryz.underlying33 info35 rfl (by decide) (by omega) (.slice Ao37 x4_1.length co37) x4_1 (⟨t300.extract 0 (t307 : Int).toNat, t309⟩ : S35) [.string (t300.extract 0 (t307 : Int).toNat), .string t309] (fun _ => True) (fun _ => False) rfl rfl ?aP (fun _ hk => hk.elim) ?aF ?aO ?aB ?aS ?aL ?_
                                (case aP => exact k35_mkM _ _ _ (⟨t300.extract 0 (t307 : Int).toNat, t309⟩ : S35))
                                (case aB => exact (by repeat (first | (with_reducible first | exact HB.out | apply below_alloc | apply pw_below_drewN | apply below_drew1) | exact HB.out)))
                                (case aF => exact (fun _ _ => trivial))
                                (case aO => exact (by (with_reducible repeat (first | apply Kd.R_alloc | apply Kd.R_drewN | apply Kd.R_drew)); exact HO_4.out))
                                (case aS => exact (below_size (by repeat (first | (with_reducible first | exact HB.out | apply below_alloc | apply pw_below_drewN | apply below_drew1) | exact HB.out))))
                                (case aL => have := LMc50.out; omega)
                                intro v311 w52 ho hb hg hat
                                rw [← Ny310.out] at ho
                                have n0_ := Aside0.mk (hb)
                                have n1_ := Aside0.mk (ho)
                                clear HB
                                clear HO_4
                                have HB := n0_
                                have HO312 := n1_
                                clear n0_ n1_
                                clear ho hb hg hat
                                refine hK.out _ _ trivial (fun hHeld => ?_)
                                clear hK K
                                refine norm_ (a' := ?_) ?_ ?_
                                rotate_left
                                · show Act.put _ (some 93) _ = _
                                  simp only [Act.put, List.setIfInBounds_toArray, List.set_cons_zero, List.set_cons_succ, i64_w, i32_w]
                                  rfl
                                refine pure_ (i := 12) (N := some 4) (v := ?_) (a' := ?_) #[true, true, true, true, true, true, true, true, true, true, true, true, true] rfl rfl (any_of HT_.out (by kernel_rfl)) (fun _ _ _ h => h) (Or.inl ⟨by rfl, ?_⟩) ?_ ?_
                                rotate_left
                                · intro w'
                                  go_simp
                                  with_reducible rfl
                                rotate_left
                                · simp only [Act.put, List.setIfInBounds_toArray, List.set_cons_zero, List.set_cons_succ, i64_w, i32_w]
                                  rfl
                                refine done_ (done_of HT_.out (by kernel_rfl)) ?_
                                try go_wp2
                                go_roundg kj35
                                case measure => have := HK1.out; have := HJ35.out; omega
                                case rel => exact ⟨(y310), (t299), (by first | rfl | (simp; done) | (simp [*]; done)), H', ⟨by have := HK1.out; have := HJ35.out; omega⟩, ⟨by (with_reducible repeat (first | apply Kd.R_alloc | apply Kd.R_drewN | apply Kd.R_drew)); exact HO312.out⟩, ⟨by repeat (first | (with_reducible first | exact HB.out | apply below_alloc | apply pw_below_drewN | apply below_drew1) | exact HB.out)⟩⟩
                              · rw [if_neg c50] at H
                                exact absurd H (by simp)
                            · rw [if_neg c48] at H
                              exact absurd H (by simp)
                          · rw [if_neg c47] at H
                            exact absurd H (by simp)
                        · replace c43 := Bool.eq_false_iff.mpr c43
                          subst c43
                          have H1 : (some (x4_1, x5_1)) = some (r1, r2) := by rw [if_neg (show ¬ (false = true) by decide)] at H; exact H
                          clear H
                          have H := H1
                          clear H1
                          simp only [Option.some.injEq, Prod.mk.injEq] at H
                          obtain ⟨rfl, rfl⟩ := H
                          go_wp2_with (first | ((with_reducible refine gate_callee (f := 19) rfl ?_); refine goesL_ (some 78) rfl rfl Tryz.func19 (by kernel_rfl) rfl #[.string (t300.extract 0 (t307 : Int).toNat)] rfl (by (try simp only [List.map_toArray, List.map_cons, List.map_nil]); first | done | rfl | (simp only [List.length_drop, List.length_take]; rfl)) ?_; (with_reducible refine (missiveref09_Named.calls kj35 (t300.extract 0 (t307 : Int).toNat) false _ A42.out).mono ?_); rintro e w' ⟨rfl, ⟨nd, rfl⟩⟩; refine ⟨_, rfl, ?_⟩))
                          go_ret2
                          exact ⟨_, by first | rfl | (simp [errW_none, errW_some]; done) | (simp [errW_none, errW_some]; exact isEmpty_nbne _) | (simp [errW_none, errW_some]; exact isEmpty_bne _) | (simp [errW_none, errW_some] <;> rfl) | (simp [*, errW_none, errW_some] <;> rfl), by (with_reducible repeat (first | apply Kd.R_alloc | apply Kd.R_drewN | apply Kd.R_drew)); exact HO_4.out, by repeat (first | (with_reducible first | exact HB.out | apply below_alloc | apply pw_below_drewN | apply below_drew1) | exact HB.out)⟩
                      · rw [if_neg c41] at H
                        exact absurd H (by simp)
                    · rw [if_neg c40] at H
                      exact absurd H (by simp)
          · rw [if_neg c5] at H
            exact absurd H (by simp)
      · rw [if_neg c2] at H
        have c2b0 : decide (x5_1 < (a0.size : Int)) = false := decide_eq_false c2
        clear c2
        simp only [Option.some.injEq, Prod.mk.injEq] at H
        obtain ⟨rfl, rfl⟩ := H
        go_wp2
        go_ret2
        exact ⟨_, by first | rfl | (simp [errW_none, errW_some]; done) | (simp [errW_none, errW_some]; exact isEmpty_nbne _) | (simp [errW_none, errW_some]; exact isEmpty_bne _) | (simp [errW_none, errW_some] <;> rfl) | (simp [*, errW_none, errW_some] <;> rfl), by (with_reducible repeat (first | apply Kd.R_alloc | apply Kd.R_drewN | apply Kd.R_drew)); exact HO_4.out, by repeat (first | (with_reducible first | exact HB.out | apply below_alloc | apply pw_below_drewN | apply below_drew1) | exact HB.out)⟩
end Go.Proofs.YtieompfmhnpnaaaGreat.H
end
section
namespace Go.Proofs.YtieompfmhnpnaaaGreat.H
open Go.RowKit Go.Proofs.YtieompfmhnpnaaaGreatW.PrintWords Go.Proofs.YtieompfmhnpnaaaGreatW.PrintLast Go.Proofs.YtieompfmhnpnaaaGreatW.PrintMore
attribute [local go_sem] max2_int min2_int max_two min_two max_three min_three max_four min_four
set_option linter.unusedVariables false
set_option linter.unusedSimpArgs false
def header_isToken.l0 : Nat → ByteArray → Int → Int → Option (Bool)
  | 0, _, _, _ => none
  | k + 1, x0, x5, x6 => if x6 < x5 then (if 0 ≤ x6 then (if x6 < (x0.size : Int) then ((header_visible.f (bt x0 x6)).bind fun t461 => (if t461 = true then ((strings_IndexByte.f (⟨#[40, 41, 60, 62, 64, 44, 59, 58, 92, 34, 47, 91, 93, 63, 61]⟩ : ByteArray) (bt x0 x6)).bind fun t462 => (if t462 ≥ 0 then (some false) else (header_isToken.l0 k x0 x5 (wrap64 (x6 + 1))))) else (some false))) else (none)) else (none)) else (some (x0.toList != ([] : List UInt8)))
def header_isToken.f (k : Nat) (a0 : ByteArray) : Option (Bool) := header_isToken.l0 k a0 (a0.size : Int) 0
theorem header_isToken.mono_l : ∀ k, (∀ y0 y1 y2, LeO (header_isToken.l0 k y0 y1 y2) (header_isToken.l0 (k + 1) y0 y1 y2))
  | 0 => fun _ _ _ r h => by simp [header_isToken.l0] at h
  | k + 1 => by
    have ih0 := header_isToken.mono_l k
    · intro y0 y1 y2
      unfold header_isToken.l0
      repeat' first
      | (with_reducible exact ih0 _ _ _)
      | (with_reducible exact LeO.refl _)
      | (with_reducible exact LeO.none _)
      | (with_reducible refine LeO.ite ?_ ?_)
      | (with_reducible refine LeO.bind ?_ (fun _ => ?_))
      | exact ih0 _ _ _
      | exact LeO.none _
      | refine LeO.ite ?_ ?_
      | refine LeO.bind ?_ (fun _ => ?_)
theorem header_isToken.mono : ∀ a0 k, LeO (header_isToken.f k a0) (header_isToken.f (k + 1) a0) := by
  intro a0 k
  have ih0 := header_isToken.mono_l k
  unfold header_isToken.f
  repeat' first
      | (with_reducible exact ih0 _ _ _)
      | (with_reducible exact LeO.refl _)
      | (with_reducible exact LeO.none _)
      | (with_reducible refine LeO.ite ?_ ?_)
      | (with_reducible refine LeO.bind ?_ (fun _ => ?_))
      | exact ih0 _ _ _
      | exact LeO.none _
      | refine LeO.ite ?_ ?_
      | refine LeO.bind ?_ (fun _ => ?_)
set_option maxHeartbeats 8000000 in
set_option maxRecDepth 100000 in
theorem header_isToken.calls (k : Nat) (a0 : ByteArray) (r : Bool) (w : World) (h : header_isToken.f k a0 = some r) :
    Calls Tryz.prog 41 #[.string a0] w fun e w' => e = .returned (.bool r) ∧ Drawn0 w w' := by
  have H : (header_isToken.l0 k a0 (a0.size : Int) 0) = some r := h
  clear h
  have H' := Aside0.mk H
  clear H
  go_enter Tryz.func41, Tryz.ntmps41
  go_wp2
  go_loopg [6] k (fun kq v6 w' => ∃ (x6_1 : Int), v6 = .int .i64 x6_1 ∧ Aside0 (header_isToken.l0 kq a0 (a0.size : Int) x6_1 = some r) ∧ Aside0 (kq ≤ k) ∧ Drawn0 w w')
  case atStart => exact ⟨(0), (by first | rfl | (simp; done) | (simp [*]; done)), H', ⟨Nat.le_refl _⟩, by repeat (first | exact Drawn0.refl _ | apply Drawn0.step)⟩
  case round =>
    clear H'
    obtain ⟨x6_1, rfl, HA, HK1, ⟨m1, rfl⟩⟩ := hrel
    cases gk with
    | zero => exact absurd HA.out (by simp [header_isToken.l0])
    | succ k1 =>
      have H := HA.out
      clear HA
      simp only [header_isToken.l0] at H
      by_cases c2 : x6_1 < (a0.size : Int)
      · rw [if_pos c2] at H
        have c2b0 : decide (x6_1 < (a0.size : Int)) = true := decide_eq_true c2
        clear c2
        by_cases c3 : 0 ≤ x6_1
        · rw [if_pos c3] at H
          have c3b0 : decide (0 ≤ x6_1) = true := decide_eq_true c3
          clear c3
          by_cases c4 : x6_1 < (a0.size : Int)
          · rw [if_pos c4] at H
            have c4b0 : decide (x6_1 < (a0.size : Int)) = true := decide_eq_true c4
            clear c4
            replace H := Option.bind_eq_some_iff.mp H
            obtain ⟨t461, A60, H⟩ := H
            replace H : (if t461 = true then ((strings_IndexByte.f (⟨#[40, 41, 60, 62, 64, 44, 59, 58, 92, 34, 47, 91, 93, 63, 61]⟩ : ByteArray) (bt a0 x6_1)).bind fun t462 => (if t462 ≥ 0 then (some false) else (header_isToken.l0 k1 a0 (a0.size : Int) (wrap64 (x6_1 + 1))))) else (some false)) = some r := H
            have A6 := Aside0.mk A60
            clear A60
            by_cases c7 : t461 = true
            · subst c7
              have H1 : ((strings_IndexByte.f (⟨#[40, 41, 60, 62, 64, 44, 59, 58, 92, 34, 47, 91, 93, 63, 61]⟩ : ByteArray) (bt a0 x6_1)).bind fun t462 => (if t462 ≥ 0 then (some false) else (header_isToken.l0 k1 a0 (a0.size : Int) (wrap64 (x6_1 + 1))))) = some r := by rw [if_pos rfl] at H; exact H
              clear H
              have H := H1
              clear H1
              replace H := Option.bind_eq_some_iff.mp H
              obtain ⟨t462, A90, H⟩ := H
              replace H : (if t462 ≥ 0 then (some false) else (header_isToken.l0 k1 a0 (a0.size : Int) (wrap64 (x6_1 + 1)))) = some r := H
              have A9 := Aside0.mk A90
              clear A90
              by_cases c10 : t462 ≥ 0
              · rw [if_pos c10] at H
                have c10b0 : decide (0 ≤ t462) = true := decide_eq_true c10
                clear c10
                obtain rfl := Option.some.inj H
                have p5 : 0 ≤ (x6_1 : Int) := of_decide_eq_true (by first | (with_reducible assumption) | assumption)
                have q5 : x6_1 < (a0.size : Int) := of_decide_eq_true (by first | (with_reducible assumption) | assumption)
                have hx5 := bt_at a0 x6_1
                replace p5 := eq_true p5
                replace q5 := eq_true q5
                go_wp2_with (first | ((with_reducible refine gate_callee (f := 72) rfl ?_); refine goesL_ (some 12) rfl rfl Tryz.func72 (by kernel_rfl) rfl #[.int .u8 (bt a0 x6_1)] rfl (by (try simp only [List.map_toArray, List.map_cons, List.map_nil]); first | done | rfl | (simp only [List.length_drop, List.length_take]; rfl)) ?_; (with_reducible refine (header_visible.calls (bt a0 x6_1) true _ A6.out).mono ?_); rintro e w' ⟨rfl, ⟨nd, rfl⟩⟩; refine ⟨_, rfl, ?_⟩; have p8 : 0 ≤ (x6_1 : Int) := of_decide_eq_true (by first | (with_reducible assumption) | assumption); have q8 : x6_1 < (a0.size : Int) := of_decide_eq_true (by first | (with_reducible assumption) | assumption); have hx8 := bt_at a0 x6_1; replace p8 := eq_true p8; replace q8 := eq_true q8) | (go_at_call 73; (with_reducible refine (strings_IndexByte.calls (⟨#[40, 41, 60, 62, 64, 44, 59, 58, 92, 34, 47, 91, 93, 63, 61]⟩ : ByteArray) (bt a0 x6_1) t462 _ A9.out).mono ?_); rintro e w' ⟨rfl, ⟨nd, rfl⟩⟩))
                go_ret
                exact ⟨by first | rfl | (simp; done) | (simp [*]; done), by repeat (first | exact Drawn0.refl _ | apply Drawn0.step)⟩
              · rw [if_neg c10] at H
                have c10b0 : decide (0 ≤ t462) = false := decide_eq_false c10
                clear c10
                have H' := Aside0.mk H
                clear H
                have p5 : 0 ≤ (x6_1 : Int) := of_decide_eq_true (by first | (with_reducible assumption) | assumption)
                have q5 : x6_1 < (a0.size : Int) := of_decide_eq_true (by first | (with_reducible assumption) | assumption)
                have hx5 := bt_at a0 x6_1
                replace p5 := eq_true p5
                replace q5 := eq_true q5
                go_wp2_with (first | ((with_reducible refine gate_callee (f := 72) rfl ?_); refine goesL_ (some 12) rfl rfl Tryz.func72 (by kernel_rfl) rfl #[.int .u8 (bt a0 x6_1)] rfl (by (try simp only [List.map_toArray, List.map_cons, List.map_nil]); first | done | rfl | (simp only [List.length_drop, List.length_take]; rfl)) ?_; (with_reducible refine (header_visible.calls (bt a0 x6_1) true _ A6.out).mono ?_); rintro e w' ⟨rfl, ⟨nd, rfl⟩⟩; refine ⟨_, rfl, ?_⟩; have p8 : 0 ≤ (x6_1 : Int) := of_decide_eq_true (by first | (with_reducible assumption) | assumption); have q8 : x6_1 < (a0.size : Int) := of_decide_eq_true (by first | (with_reducible assumption) | assumption); have hx8 := bt_at a0 x6_1; replace p8 := eq_true p8; replace q8 := eq_true q8) | (go_at_call 73; (with_reducible refine (strings_IndexByte.calls (⟨#[40, 41, 60, 62, 64, 44, 59, 58, 92, 34, 47, 91, 93, 63, 61]⟩ : ByteArray) (bt a0 x6_1) t462 _ A9.out).mono ?_); rintro e w' ⟨rfl, ⟨nd, rfl⟩⟩))
                go_roundg k1
                case measure => have := HK1.out; omega
                case rel => exact ⟨(wrap64 (x6_1 + 1)), (by first | rfl | (simp; done) | (simp [*]; done)), H', ⟨by have := HK1.out; omega⟩, by repeat (first | exact Drawn0.refl _ | apply Drawn0.step)⟩
            · replace c7 := Bool.eq_false_iff.mpr c7
              subst c7
              have H1 : (some false) = some r := by rw [if_neg (show ¬ (false = true) by decide)] at H; exact H
              clear H
              have H := H1
              clear H1
              obtain rfl := Option.some.inj H
              have p5 : 0 ≤ (x6_1 : Int) := of_decide_eq_true (by first | (with_reducible assumption) | assumption)
              have q5 : x6_1 < (a0.size : Int) := of_decide_eq_true (by first | (with_reducible assumption) | assumption)
              have hx5 := bt_at a0 x6_1
              replace p5 := eq_true p5
              replace q5 := eq_true q5
              go_wp2_with (first | ((with_reducible refine gate_callee (f := 72) rfl ?_); refine goesL_ (some 12) rfl rfl Tryz.func72 (by kernel_rfl) rfl #[.int .u8 (bt a0 x6_1)] rfl (by (try simp only [List.map_toArray, List.map_cons, List.map_nil]); first | done | rfl | (simp only [List.length_drop, List.length_take]; rfl)) ?_; (with_reducible refine (header_visible.calls (bt a0 x6_1) false _ A6.out).mono ?_); rintro e w' ⟨rfl, ⟨nd, rfl⟩⟩; refine ⟨_, rfl, ?_⟩))
              go_ret
              exact ⟨by first | rfl | (simp; done) | (simp [*]; done), by repeat (first | exact Drawn0.refl _ | apply Drawn0.step)⟩
          · rw [if_neg c4] at H
            exact absurd H (by simp)
        · rw [if_neg c3] at H
          exact absurd H (by simp)
      · rw [if_neg c2] at H
        have c2b0 : decide (x6_1 < (a0.size : Int)) = false := decide_eq_false c2
        clear c2
        obtain rfl := Option.some.inj H
        go_wp2
        go_ret
        exact ⟨by first | rfl | (simp; done) | (simp; exact isEmpty_nbne _) | (simp [*]; done), by repeat (first | exact Drawn0.refl _ | apply Drawn0.step)⟩
end Go.Proofs.YtieompfmhnpnaaaGreat.H
end
section
namespace Go.Proofs.YtieompfmhnpnaaaGreat.H
open Go.RowKit Go.Proofs.YtieompfmhnpnaaaGreatW.PrintWords Go.Proofs.YtieompfmhnpnaaaGreatW.PrintLast Go.Proofs.YtieompfmhnpnaaaGreatW.PrintMore
set_option linter.unusedVariables false
set_option linter.unusedSimpArgs false
def byteAt (s : ByteArray) (i : Nat) : UInt8 := s.data.toList.getD i 0
theorem byteAt_get (s : ByteArray) (i : Nat) (h : i < s.size) : s[i] = byteAt s i := by
  unfold byteAt
  have hl : s.data.toList.length = s.size := by simp
  rw [List.getD_eq_getElem?_getD, List.getElem?_eq_getElem (by omega)]
  simp
  rfl
def blankB (c : UInt8) : Bool := c == 32 || c == 9
theorem blank_at (c : UInt8) : header_blank.f (c.toNat : Int) = some (blankB c) := by
  unfold header_blank.f blankB
  have e : ∀ n : Nat, n < 256 → ((c == UInt8.ofNat n) = decide (c.toNat = n)) := fun n hn => by
    rw [Bool.eq_iff_iff]
    simp
    constructor
    · rintro rfl; simp; omega
    · intro h; rw [← h]; simp
  have e1 := e 32 (by decide)
  have e2 := e 9 (by decide)
  simp at e1 e2
  rw [e1, e2]
  by_cases h : c.toNat = 32
  · simp [h]
  · by_cases h2 : c.toNat = 9
    · simp [h2]
    · have h3 : ¬ ((c.toNat : Int) = 32) := by omega
      have h4 : ¬ ((c.toNat : Int) = 9) := by omega
      simp [h, h2, h3, h4]
def isFoldB (s : ByteArray) (i : Nat) : Bool := byteAt s i == 32 && !blankB (byteAt s (i - 1)) && !blankB (byteAt s (i + 1))
set_option maxRecDepth 100000 in
set_option maxHeartbeats 1000000 in
theorem isFold_calls (s : ByteArray) (i b : Nat) (w : World) (hs : s.size ≤ 1099511627776) (hb : w.cell? ⟨b, 0, none⟩ = some (.string s)) (h1 : 1 ≤ i) (h2 : i + 1 < s.size) :
    Calls Tryz.prog 96 #[.int .i64 i, .pointer (some ⟨b, 0, none⟩)] w fun e w' => e = .returned (.bool (isFoldB s i)) ∧ Drawn0 w w' := by
  have k0 := byteAt_get s i (by omega)
  have k1 := byteAt_get s (i - 1) (by omega)
  have k2 := byteAt_get s (i + 1) (by omega)
  have j1 : ((i : Int) - 1).toNat = i - 1 := by omega
  have j2 : (0 : Int) ≤ (i : Int) - 1 := by omega
  have j3 : ((i : Int) + 1).toNat = i + 1 := by omega
  have j4 : (0 : Int) ≤ (i : Int) + 1 := by omega
  by_cases c1 : byteAt s i = 32
  · have hb1 : (((byteAt s i).toNat : Int) == 32) = true := by rw [c1]; rfl
    have B1 := Lib.hid (blank_at (byteAt s (i - 1)))
    by_cases c2 : blankB (byteAt s (i - 1)) = true
    · have E := Lib.hid (show isFoldB s i = false by simp [isFoldB, c2])
      have C2 := Lib.hid c2
      clear c1 c2 k2
      go_enter Tryz.func96, Tryz.ntmps96
      go_wp2_with fail
      refine (header_blank.calls _ _ _ B1.out).mono ?_
      rintro e w1 ⟨rfl, ⟨n, rfl⟩⟩
      rw [C2.out]
      go_wp2_with fail
      go_ret
      exact ⟨by rw [E.out]; rfl, ⟨n, rfl⟩⟩
    · have c2' : blankB (byteAt s (i - 1)) = false := by simpa using c2
      have B2 := Lib.hid (blank_at (byteAt s (i + 1)))
      have E := Lib.hid (show isFoldB s i = !blankB (byteAt s (i + 1)) by simp [isFoldB, c1, c2'])
      have C2 := Lib.hid c2'
      clear c1 c2 c2'
      go_enter Tryz.func96, Tryz.ntmps96
      go_wp2_with fail
      refine (header_blank.calls _ _ _ B1.out).mono ?_
      rintro e w1 ⟨rfl, ⟨n, rfl⟩⟩
      rw [C2.out]
      go_wp2_with fail
      refine (header_blank.calls _ _ _ B2.out).mono ?_
      rintro e w2 ⟨rfl, ⟨m, rfl⟩⟩
      go_wp2_with fail
      go_ret
      exact ⟨by rw [E.out]; rfl, ⟨n + m, rfl⟩⟩
  · have hne : ((byteAt s i).toNat : Int) ≠ 32 := fun h => c1 (by
      have : (byteAt s i).toNat = 32 := by omega
      exact UInt8.toNat_inj.1 (by simpa using this))
    have hb1 : (((byteAt s i).toNat : Int) == 32) = false := by simpa using hne
    have E := Lib.hid (show isFoldB s i = false by simp [isFoldB, c1])
    clear c1 hne k1 k2
    go_enter Tryz.func96, Tryz.ntmps96
    go_wp2_with fail
    go_ret
    exact ⟨by rw [E.out]; rfl, Drawn0.refl _⟩
def downTo (p : Nat → Bool) (lo : Nat) : Nat → Nat
  | 0 => 0
  | n + 1 => if n + 1 ≤ lo then 0 else if p (n + 1) then n + 1 else downTo p lo n
def upTo (p : Nat → Bool) : Nat → Nat → Nat
  | _, 0 => 0
  | i, f + 1 => if p i then i else upTo p (i + 1) f
def foldAtS (s : ByteArray) (bound : Nat) : Nat :=
  let last := min 998 (s.size - 2)
  let d := downTo (isFoldB s) bound (min 78 last)
  if d = 0 then upTo (isFoldB s) (max 78 bound + 1) (last - max 78 bound) else d
theorem downTo_low (p : Nat → Bool) (lo n : Nat) (h : n ≤ lo) : downTo p lo n = 0 := by
  cases n with
  | zero => rfl
  | succ n => unfold downTo; rw [if_pos h]
theorem downTo_yes (p : Nat → Bool) (lo n : Nat) (h : lo < n) (hp : p n = true) : downTo p lo n = n := by
  cases n with
  | zero => omega
  | succ n => unfold downTo; rw [if_neg (by omega), if_pos hp]
theorem downTo_no (p : Nat → Bool) (lo n : Nat) (h : lo < n) (hp : p n = false) : downTo p lo n = downTo p lo (n - 1) := by
  cases n with
  | zero => omega
  | succ n =>
    conv => lhs; unfold downTo
    rw [if_neg (by omega), if_neg (by simp [hp])]
    rfl
theorem foldAtS_down (s : ByteArray) (bound n L M : Nat) (hL : L = min 998 (s.size - 2)) (hM : min 78 L = M) (h : downTo (isFoldB s) bound M = n) (hn : n ≠ 0) : foldAtS s bound = n := by
  unfold foldAtS
  simp only
  rw [← hL, hM, h, if_neg hn]
theorem foldAtS_up (s : ByteArray) (bound L M : Nat) (hL : L = min 998 (s.size - 2)) (hM : min 78 L = M) (h : downTo (isFoldB s) bound M = 0) : foldAtS s bound = upTo (isFoldB s) (max 78 bound + 1) (L - max 78 bound) := by
  unfold foldAtS
  simp only
  rw [← hL, hM, h, if_pos rfl]
theorem upTo_yes (p : Nat → Bool) (i L : Nat) (h : i ≤ L) (hp : p i = true) : upTo p i (L + 1 - i) = i := by
  rw [show L + 1 - i = (L - i) + 1 from by omega]
  unfold upTo
  rw [if_pos hp]
theorem upTo_no (p : Nat → Bool) (i L : Nat) (h : i ≤ L) (hp : p i = false) : upTo p i (L + 1 - i) = upTo p (i + 1) (L + 1 - (i + 1)) := by
  rw [show L + 1 - i = (L + 1 - (i + 1)) + 1 from by omega]
  conv => lhs; unfold upTo
  rw [if_neg (by simp [hp])]
theorem upTo_end (p : Nat → Bool) (i L : Nat) (h : L < i) : upTo p i (L + 1 - i) = 0 := by
  rw [show L + 1 - i = 0 from by omega]
  rfl
theorem drawn_trans {a b c : World} (h : Drawn0 a b) (k : Drawn0 b c) : Drawn0 a c := by
  obtain ⟨n, rfl⟩ := h
  obtain ⟨m, rfl⟩ := k
  exact ⟨n + m, World.drewN_drewN ..⟩
theorem drawn_below {a b : World} (h : Drawn0 a b) {B : Nat} : Below B a b := by
  obtain ⟨n, rfl⟩ := h
  exact pw_below_drewN (Below.refl _ _) n
theorem drawn_cell {a b : World} (h : Drawn0 a b) (p : Addr) : b.cell? p = a.cell? p := by
  obtain ⟨n, rfl⟩ := h
  rfl
set_option maxRecDepth 100000 in
set_option maxHeartbeats 2000000 in
theorem foldAt_calls (s : ByteArray) (bound : Nat) (w : World) (hs : s.size ≤ 1099511627776) (h78 : 78 < s.size) (hb : bound ≤ 1000) :
    Calls Tryz.prog 84 #[.string s, .int .i64 bound] w fun e w' => e = .returned (.int .i64 (foldAtS s bound)) ∧ Below w.heap.size w w' := by
  obtain ⟨L, hL⟩ : ∃ L, L = min 998 (s.size - 2) := ⟨_, rfl⟩
  have e1 : min (998 : Int) ((s.size : Int) - 2) = (L : Int) := by omega
  have e2 : min (78 : Int) (L : Int) = ((min 78 L : Nat) : Int) := by omega
  have l1 : 77 ≤ L := by omega
  have l2 : L + 1 < s.size := by omega
  have l3 : L ≤ 998 := by omega
  have m1 : min 78 L ≤ L := by omega
  have m2 : 77 ≤ min 78 L := by omega
  have E1 := Lib.hid e1
  have E2 := Lib.hid e2
  have HL := Lib.hid hL
  clear e1 e2 hL
  obtain ⟨W, hW⟩ : ∃ W, W = w.alloc (Obj.cells #[Value.string s] 9) := ⟨_, rfl⟩
  have hcell : W.cell? ⟨w.heap.size, 0, none⟩ = some (.string s) := by rw [hW]; simp
  have hBW : Below w.heap.size w W := by rw [hW]; exact (Below.refl _ _).alloc (Nat.le_refl _) _
  have HW := Aside0.mk hW
  clear hW
  go_enter Tryz.func84, Tryz.ntmps84
  go_wp2_with fail
  rw [E1.out, E2.out, ← HW.out]
  generalize hM : min 78 L = M at m1 m2 ⊢
  have HM := Lib.hid hM
  clear hM
  go_loopw [7] (fun v wr => ∃ n : Nat, n ≤ M ∧ v = .int .i64 n ∧ Aside0 (downTo (isFoldB s) bound M = downTo (isFoldB s) bound n) ∧ Drawn0 W wr) (fun v _ => (intOf v).toNat)
  case atStart => exact ⟨M, Nat.le_refl _, rfl, ⟨rfl⟩, Drawn0.refl _⟩
  case round =>
    obtain ⟨n, hn, rfl, hd, hdr⟩ := hrel
    by_cases hlt : bound < n
    · have hc := (drawn_cell hdr ⟨w.heap.size, 0, none⟩).trans hcell
      have hif := isFold_calls s n w.heap.size wr hs hc (by omega) (by omega)
      have HIF := Aside0.mk hif
      clear hif
      by_cases hp : isFoldB s n = true
      · have HP := Lib.hid hp
        have HX := Lib.hid (downTo_yes (isFoldB s) bound n hlt hp)
        clear hp
        go_wp2_with fail
        refine (HIF.out).mono ?_
        rintro e w2 ⟨rfl, hd2⟩
        rw [HP.out]
        go_wp2_with fail
        go_ret
        have hf := foldAtS_down s bound n L M HL.out HM.out (hd.out.trans HX.out) (by omega)
        exact ⟨by rw [hf]; rfl, hBW.trans (drawn_below (drawn_trans hdr hd2))⟩
      · have hp' : isFoldB s n = false := by simpa using hp
        have HP := Lib.hid hp'
        have HX := Lib.hid (downTo_no (isFoldB s) bound n hlt hp')
        clear hp hp'
        go_wp2_with fail
        refine (HIF.out).mono ?_
        rintro e w2 ⟨rfl, hd2⟩
        rw [HP.out]
        go_wp2_with fail
        go_roundw
        case rel => exact ⟨n - 1, by omega, congrArg (Value.int .i64) (by omega), ⟨hd.out.trans HX.out⟩, drawn_trans hdr hd2⟩
        case measure => simp [intOf]; omega
    · have hz := hd.out.trans (downTo_low (isFoldB s) bound n (by omega))
      have HF := Lib.hid (foldAtS_up s bound L M HL.out HM.out hz)
      obtain ⟨mx, hmx⟩ : ∃ mx, mx = max 78 bound := ⟨_, rfl⟩
      have e3 : max (78 : Int) (bound : Int) = (mx : Int) := by omega
      have E3 := Lib.hid e3
      have mx1 : 78 ≤ mx := by omega
      have mx2 : mx ≤ 1000 := by omega
      rw [← hmx] at HF
      clear hmx e3 hz hd
      go_wp2_with fail
      rw [E3.out]
      obtain ⟨w4, hw4⟩ : ∃ w4 : World, w4 = wr := ⟨_, rfl⟩
      subst hw4
      go_loopw [8] (fun v wr => ∃ i : Nat, mx + 1 ≤ i ∧ i ≤ max (L + 1) (mx + 1) ∧ v = .int .i64 i ∧ Aside0 (upTo (isFoldB s) (mx + 1) (L - mx) = upTo (isFoldB s) i (L + 1 - i)) ∧ Drawn0 W wr) (fun v _ => L + 1 - (intOf v).toNat)
      case atStart => exact ⟨mx + 1, Nat.le_refl _, by omega, by go_num, ⟨by rw [show L + 1 - (mx + 1) = L - mx from by omega]⟩, hdr⟩
      case round =>
        clear hdr
        obtain ⟨i, hi1, hi2, rfl, hd, hdr⟩ := hrel
        by_cases hle : i ≤ L
        · have hc := (drawn_cell hdr ⟨w.heap.size, 0, none⟩).trans hcell
          have hif := isFold_calls s i w.heap.size wr hs hc (by omega) (by omega)
          have HIF := Aside0.mk hif
          clear hif
          by_cases hp : isFoldB s i = true
          · have HP := Lib.hid hp
            have HX := Lib.hid (upTo_yes (isFoldB s) i L hle hp)
            clear hp
            go_wp2_with fail
            refine (HIF.out).mono ?_
            rintro e w2 ⟨rfl, hd2⟩
            rw [HP.out]
            go_wp2_with fail
            go_ret
            exact ⟨by rw [HF.out, hd.out, HX.out]; rfl, hBW.trans (drawn_below (drawn_trans hdr hd2))⟩
          · have hp' : isFoldB s i = false := by simpa using hp
            have HP := Lib.hid hp'
            have HX := Lib.hid (upTo_no (isFoldB s) i L hle hp')
            clear hp hp'
            go_wp2_with fail
            refine (HIF.out).mono ?_
            rintro e w2 ⟨rfl, hd2⟩
            rw [HP.out]
            go_wp2_with fail
            go_roundw
            case rel => exact ⟨i + 1, by omega, by omega, by go_num, ⟨hd.out.trans HX.out⟩, drawn_trans hdr hd2⟩
            case measure => simp [intOf]; omega
        · have HX := Lib.hid (upTo_end (isFoldB s) i L (by omega))
          go_wp2_with fail
          go_ret
          exact ⟨by rw [HF.out, hd.out, HX.out]; rfl, hBW.trans (drawn_below hdr)⟩
end Go.Proofs.YtieompfmhnpnaaaGreat.H
end
section
namespace Go.Proofs.YtieompfmhnpnaaaGreat.H
open Go.RowKit Go.Proofs.YtieompfmhnpnaaaGreatW.PrintWords Go.Proofs.YtieompfmhnpnaaaGreatW.PrintLast Go.Proofs.YtieompfmhnpnaaaGreatW.PrintMore
set_option linter.unusedVariables false
set_option linter.unusedSimpArgs false
abbrev muLink : Go.Conc.Locks.MuLink := { lock := 104, unlock := 105, ilock := 111, iunlock := 112, lockSlow := 121, unlockSlow := 124, disable := 117, enable := 119, acquire := 120, relMerge := 122, cas32 := 118, add32 := 123, tMutex := 99, tIMutex := 97, tPMutex := 137, tPIMutex := 151, tPI32 := 153, tUP := 112, tNoCopy := 91, tU32 := 93 }
theorem muLib : Go.Conc.Locks.MuLib Tryz.prog muLink :=
  ⟨Tryz.func104, Tryz.func105, Tryz.func111, Tryz.func112, Tryz.func117, Tryz.func119, Tryz.func120, Tryz.func122, Tryz.func118, Tryz.func123, Tryz.underlying97, Tryz.runUnderlying97, Tryz.sizeOf97, Tryz.isAgg97, Tryz.zeroValue97, Tryz.underlying99, Tryz.runUnderlying99, Tryz.sizeOf99, Tryz.isAgg99, Tryz.zeroValue99, Tryz.underlying137, Tryz.runUnderlying137, Tryz.sizeOf137, Tryz.isAgg137, Tryz.zeroValue137, Tryz.underlying151, Tryz.runUnderlying151, Tryz.sizeOf151, Tryz.isAgg151, Tryz.zeroValue151, Tryz.underlying153, Tryz.runUnderlying153, Tryz.sizeOf153, Tryz.isAgg153, Tryz.zeroValue153, Tryz.underlying112, Tryz.runUnderlying112, Tryz.sizeOf112, Tryz.isAgg112, Tryz.zeroValue112, Tryz.underlying91, Tryz.runUnderlying91, Tryz.sizeOf91, Tryz.isAgg91, Tryz.zeroValue91, Tryz.underlying21, Tryz.runUnderlying21, Tryz.sizeOf21, Tryz.isAgg21, Tryz.zeroValue21, (by kernel_rfl)⟩
theorem store_deferred (a : Addr) (x : Value) (u : FrameMode) (w : World) (hc : w.cell? a = some x) (hz : w.frozen? a = false) :
    CallsD Tryz.prog 106 #[.pointer (some a), .bool true] u w fun e u' w' => u' = u ∧ (e = .returned (.tuple #[]) ∧ w' = w.drew.setCell a (.int .u32 1)) := by
  have hc' : w.drew.cell? a = some x := by go_simp
  have hz' : w.drew.frozen? a = false := by go_simp
  have hst := run_call_store (P := Tryz.prog) Tryz.func113 (by kernel_rfl) (by kernel_rfl) (by kernel_rfl) (by kernel_rfl) (k := .u32) (y := 1) hc' hz'
  go_enter_d Tryz.func106, Tryz.ntmps106
  go_wp2
  go_region_calls
  all_goals (go_end0; exact ⟨rfl, rfl⟩)
theorem load_false (a : Addr) (w : World) (hc : w.cell? a = some (.int .u32 0)) :
    Calls Tryz.prog 93 #[.pointer (some a)] w fun e w' => e = .returned (.bool false) ∧ w = w' := by
  have hl := run_call_load (P := Tryz.prog) Tryz.func103 (by kernel_rfl) (by kernel_rfl) (by kernel_rfl) .u32 (by kernel_rfl) hc
  go_enter Tryz.func93, Tryz.ntmps93
  go_wp2
  go_ret
  exact ⟨rfl, rfl⟩
structure Fresh (w : World) (g : Nat) : Prop where
  done : w.cell? ⟨g, 0, none⟩ = some (.int .u32 0)
  state : w.cell? ⟨g, 1, none⟩ = some (.int .i32 0)
  f0 : w.frozen? ⟨g, 0, none⟩ = false
  f1 : w.frozen? ⟨g, 1, none⟩ = false
structure Held (w : World) (g : Nat) : Prop where
  done : w.cell? ⟨g, 0, none⟩ = some (.int .u32 0)
  state : w.cell? ⟨g, 1, none⟩ = some (.int .i32 1)
  f0 : w.frozen? ⟨g, 0, none⟩ = false
  f1 : w.frozen? ⟨g, 1, none⟩ = false
theorem Fresh.locked {w : World} {g : Nat} (h : Fresh w g) : Held (w.setCell ⟨g, 1, none⟩ (.int .i32 1)) g :=
  ⟨(World.cell?_setCell_other _ ⟨g, 1, none⟩ ⟨g, 0, none⟩ _ (by simp)).trans h.done, World.cell?_setCell_same _ _ _ h.state, by rw [World.frozen?_setCell]; exact h.f0, by rw [World.frozen?_setCell]; exact h.f1⟩
set_option maxRecDepth 100000 in
set_option maxHeartbeats 1600000 in
theorem slow_any (g : Nat) (w : World) (h : Fresh w g) (Q : World → Prop)
    (hfn : Calls Tryz.prog 81 #[.pointer (some ⟨g, 0, none⟩)] (w.setCell ⟨g, 1, none⟩ (.int .i32 1)) fun e w' => e = .returned (.tuple #[]) ∧ Held w' g ∧ Q w') :
    Calls Tryz.prog 94 #[.pointer (some ⟨g, 0, none⟩), .func (.func 81) #[.pointer (some ⟨g, 0, none⟩)] #[]] w fun e w' => e = .returned (.tuple #[]) ∧
      ∃ w2, Q w2 ∧ w' = (w2.drew.setCell ⟨g, 0, none⟩ (.int .u32 1)).setCell ⟨g, 1, none⟩ (.int .i32 0) := by
  have HFN := Aside0.mk hfn
  have HQ := h.locked
  obtain ⟨q0, q1, q2, q3⟩ := HQ
  obtain ⟨p0, p1, p2, p3⟩ := h
  have hnot : ∀ (x : Bool) (w : World), (Op.unary .not (.bool x)).run Tryz.prog w = .ok (.bool (!x)) w := fun _ _ => rfl
  clear hfn
  go_enter_defers Tryz.func94, Tryz.ntmps94
  go_wp2_with (go_at_call 104; refine (Go.MuLone.lock_free muLib ⟨g, 1, none⟩ _ p1 p3).mono ?_; rintro e w' ⟨rfl, rfl⟩)
  refine (load_false ⟨g, 0, none⟩ _ q0).mono ?_
  rintro e w' ⟨rfl, rfl⟩
  go_wp2_with fail
  refine (HFN.out).mono ?_
  rintro e w2 ⟨rfl, hh, hq⟩
  obtain ⟨r0, r1, r2, r3⟩ := hh
  go_wp2_with fail
  refine leaves_cons (f := 106) (args := #[.pointer (some ⟨g, 0, none⟩), .bool true]) (by simp) (by simp [go_sem]) ?_
  refine (store_deferred ⟨g, 0, none⟩ (.int .u32 0) .returning _ r0 r2).mono ?_
  rintro e u' w'' ⟨rfl, rfl, rfl⟩
  refine leaves_cons (f := 105) (args := #[.pointer (some ⟨g, 1, none⟩)]) (by simp [settle]) (by simp [go_sem]) ?_
  refine (Go.MuLone.unlock_deferred muLib ⟨g, 1, none⟩ _ _ ?_ (by simp [r3])).mono ?_
  · refine (World.cell?_setCell_other _ ⟨g, 0, none⟩ ⟨g, 1, none⟩ _ (by simp)).trans ?_
    rw [World.cell?_drew]
    exact r1
  rintro e u' w'' ⟨rfl, rfl, rfl⟩
  simp [Leaves, settle, results, Tryz.results94]
  exact ⟨_, hq, rfl⟩
set_option maxRecDepth 100000 in
set_option maxHeartbeats 1600000 in
theorem do_first (g : Nat) (w : World) (h : Fresh w g) (Q : World → Prop)
    (hfn : Calls Tryz.prog 81 #[.pointer (some ⟨g, 0, none⟩)] (w.setCell ⟨g, 1, none⟩ (.int .i32 1)) fun e w' => e = .returned (.tuple #[]) ∧ Held w' g ∧ Q w') :
    Calls Tryz.prog 80 #[.pointer (some ⟨g, 0, none⟩), .func (.func 81) #[.pointer (some ⟨g, 0, none⟩)] #[]] w fun e w' => e = .returned (.tuple #[]) ∧
      ∃ w2, Q w2 ∧ w' = (w2.drew.setCell ⟨g, 0, none⟩ (.int .u32 1)).setCell ⟨g, 1, none⟩ (.int .i32 0) := by
  have HFN := Aside0.mk hfn
  have HH := Aside0.mk h
  have hd := h.done
  have hnot : ∀ (x : Bool) (w : World), (Op.unary .not (.bool x)).run Tryz.prog w = .ok (.bool (!x)) w := fun _ _ => rfl
  clear hfn h
  go_enter Tryz.func80, Tryz.ntmps80
  go_wp2_with fail
  refine (load_false ⟨g, 0, none⟩ _ hd).mono ?_
  rintro e w' ⟨rfl, rfl⟩
  go_wp2_with fail
  refine (slow_any g _ HH.out Q HFN.out).mono ?_
  rintro e w' ⟨rfl, hq⟩
  have HQ := Aside0.mk hq
  clear hq
  go_wp2_with fail
  go_end0
  exact ⟨rfl, HQ.out⟩
end Go.Proofs.YtieompfmhnpnaaaGreat.H
end
section
namespace Go.Proofs.YtieompfmhnpnaaaGreat.H
open Go.RowKit Go.Proofs.YtieompfmhnpnaaaGreatW.PrintWords Go.Proofs.YtieompfmhnpnaaaGreatW.PrintLast Go.Proofs.YtieompfmhnpnaaaGreatW.PrintMore
set_option linter.unusedVariables false
set_option linter.unusedSimpArgs false
structure NewRep (B : Nat) (w : World) (g : Nat) (st : Int) (x0 x1 x2 x3 : ByteArray) : Prop where
  ge : B ≤ g
  done : w.cell? ⟨g, 0, none⟩ = some (.int .u32 0)
  state : w.cell? ⟨g, 1, none⟩ = some (.int .i32 st)
  r : w.cell? ⟨g, 3, none⟩ = some .nilIface
  fz : ∀ j, w.frozen? ⟨g, j, none⟩ = false
  row : ∃ h cap, B ≤ h ∧ h ≠ g ∧ w.cell? ⟨g, 4, none⟩ = some (.slice (some ⟨h, 0, none⟩) 4 cap) ∧
    w.cell? ⟨h, 0, none⟩ = some (.string x0) ∧ w.cell? ⟨h, 1, none⟩ = some (.string x1) ∧ w.cell? ⟨h, 2, none⟩ = some (.string x2) ∧ w.cell? ⟨h, 3, none⟩ = some (.string x3)
theorem NewRep.locked {B : Nat} {w : World} {g : Nat} {st : Int} {x0 x1 x2 x3 : ByteArray} (h : NewRep B w g st x0 x1 x2 x3) (v : Int) : NewRep B (w.setCell ⟨g, 1, none⟩ (.int .i32 v)) g v x0 x1 x2 x3 := by
  obtain ⟨hge, h0, h1, h3, hf, k, cap, hB, hne, h4, c0, c1, c2, c3⟩ := h
  have far : ∀ j : Nat, j ≠ 1 → (w.setCell ⟨g, 1, none⟩ (.int .i32 v)).cell? ⟨g, j, none⟩ = w.cell? ⟨g, j, none⟩ := fun j hj => World.cell?_setCell_other _ _ _ _ (fun e => by injection e with _ e2; exact hj e2.symm)
  have far2 : ∀ j : Nat, (w.setCell ⟨g, 1, none⟩ (.int .i32 v)).cell? ⟨k, j, none⟩ = w.cell? ⟨k, j, none⟩ := fun j => World.cell?_setCell_other _ _ _ _ (fun e => by injection e with e2 _; exact hne e2.symm)
  exact ⟨hge, (far 0 (by decide)).trans h0, World.cell?_setCell_same _ _ _ h1, (far 3 (by decide)).trans h3, fun j => by rw [World.frozen?_setCell]; exact hf j, k, cap, hB, hne, (far 4 (by decide)).trans h4, (far2 0).trans c0, (far2 1).trans c1, (far2 2).trans c2, (far2 3).trans c3⟩
set_option maxRecDepth 100000 in
set_option maxHeartbeats 1000000 in
theorem new_replacer (b : Nat) (x0 x1 x2 x3 : ByteArray) (w : World) (c0 : w.cell? ⟨b, 0, none⟩ = some (.string x0)) (c1 : w.cell? ⟨b, 1, none⟩ = some (.string x1)) (c2 : w.cell? ⟨b, 2, none⟩ = some (.string x2)) (c3 : w.cell? ⟨b, 3, none⟩ = some (.string x3)) :
    Calls Tryz.prog 52 #[.slice (some ⟨b, 0, none⟩) 4 4] w fun e w' => ∃ g, e = .returned (.pointer (some ⟨g, 0, none⟩)) ∧ NewRep w.heap.size w' g 0 x0 x1 x2 x3 ∧ Below w.heap.size w w' := by
  obtain ⟨i0, hi, hz0, hz1, hz2⟩ := info_parts info9
  have hown := World.ownsRow_nil w w.heap.size 9 1
  go_enter Tryz.func52, Tryz.ntmps52
  go_wp2_with fail
  generalize (Question.appendCap 4 0 9).cut (w.tape w.drawn (Question.appendCap 4 0 9)) = cap
  go_ret
  refine ⟨w.heap.size + 1, rfl, ?_, ?_⟩
  · obtain ⟨W, hW⟩ : ∃ W, W = w.alloc (Obj.cells (#[Value.string x0, Value.string x1, Value.string x2, Value.string x3] ++ Builtin.zeroCells #[Value.string { data := #[] }] (cap - 4)) 9) := ⟨_, rfl⟩
    have hn := heap_alloc_new W (Obj.cells #[Value.int IntKind.u32 0, Value.int IntKind.i32 0, Value.int IntKind.u32 0, Value.nilIface, Value.slice (some { block := w.heap.size, off := 0 }) 4 cap] 105)
    have hs : W.heap.size = w.heap.size + 1 := by rw [hW, World.size_alloc]
    rw [← hW]
    rw [hs] at hn
    have hh : ∀ j : Nat, ((W.alloc (Obj.cells #[Value.int IntKind.u32 0, Value.int IntKind.i32 0, Value.int IntKind.u32 0, Value.nilIface, Value.slice (some { block := w.heap.size, off := 0 }) 4 cap] 105)).drew).cell? ⟨w.heap.size, j, none⟩ = W.cell? ⟨w.heap.size, j, none⟩ := fun j => World.cell?_alloc_lt W _ ⟨w.heap.size, j, none⟩ (by show w.heap.size < W.heap.size; omega)
    refine ⟨by omega, ?_, ?_, ?_, fun j => ?_, w.heap.size, cap, Nat.le_refl _, by omega, ?_, ?_, ?_, ?_, ?_⟩
    · exact (Lib.cell_of_heap hn 0)
    · exact (Lib.cell_of_heap hn 1)
    · exact (Lib.cell_of_heap hn 3)
    · exact (Lib.frozen_of_heap hn j)
    · exact (Lib.cell_of_heap hn 4)
    all_goals (rw [hh, hW]; simp [Array.getElem?_append])
  · exact (((Below.refl _ _).alloc (Nat.le_refl _) _).alloc (by simp) _).drew
def idTab (n k : Nat) : List Int := (List.range n).map fun j => if j < k then (j : Int) else 0
theorem idTab_length (n k : Nat) : (idTab n k).length = n := by simp [idTab]
theorem idTab_set (n k : Nat) (h : k < n) : (idTab n k).set k (k : Int) = idTab n (k + 1) := by
  apply List.ext_getElem
  · simp [idTab]
  · intro i h1 h2
    simp [idTab, List.getElem_set]
    by_cases e : k = i
    · subst e; simp
    · rw [if_neg e]
      by_cases h3 : i < k
      · rw [if_pos h3, if_pos (by omega)]
      · rw [if_neg h3, if_neg (by omega)]
theorem idTab_zero (n : Nat) : idTab n 0 = List.replicate n 0 := by
  apply List.ext_getElem
  · simp [idTab]
  · intro i h1 h2
    simp [idTab]
def tabk (k : Nat) : List Int := idTab 256 k
theorem tabk_length (k : Nat) : (tabk k).length = 256 := idTab_length 256 k
theorem tabk_set (k : Nat) (h : k < 256) : (tabk k).set k (k : Int) = tabk (k + 1) := idTab_set 256 k h
theorem tabk_zero : tabk 0 = List.replicate 256 0 := idTab_zero 256
def tab2 (a0 a1 a2 a3 : UInt8) : List Int := ((tabk 256).set a2.toNat (a3.toNat : Int)).set a0.toNat (a1.toNat : Int)
theorem zeroCells128_eq : Tryz.zeroCells128 = (List.replicate 256 (Value.int .u8 0)).toArray := by kernel_rfl
def Stage3 (wr w1 w2 : World) (i : Value) (W : World) : Prop := (i = .int .i64 2 ∧ W = wr) ∨ (i = .int .i64 0 ∧ W = w1) ∨ (i = .int .i64 (-2) ∧ W = w2)
theorem zeros_at (w : World) (n j : Nat) (hj : j < n) : (w.alloc (Obj.cells (List.replicate n (Value.int .u8 0)).toArray 128)).cell? ⟨w.heap.size, j, none⟩ = some (.int .u8 ((List.replicate n (0 : Int)).getD j 0)) ∧ (w.alloc (Obj.cells (List.replicate n (Value.int .u8 0)).toArray 128)).frozen? ⟨w.heap.size, j, none⟩ = false := by
  refine ⟨?_, by simp⟩
  rw [World.cell?_alloc_new]
  simp [List.getD, hj]
set_option maxRecDepth 100000 in
set_option maxHeartbeats 1000000 in
theorem build_bytes (B g : Nat) (st : Int) (a0 a1 a2 a3 : UInt8) (w : World) (hr : NewRep B w g st ⟨#[a0]⟩ ⟨#[a1]⟩ ⟨#[a2]⟩ ⟨#[a3]⟩) :
    Calls Tryz.prog 95 #[.pointer (some ⟨g, 0, none⟩)] w fun e w' => ∃ h, e = .returned (.iface 129 (.pointer (some ⟨h, 0, none⟩))) ∧ w.heap.size ≤ h ∧ RowB w' h 256 (tab2 a0 a1 a2 a3) ∧ Below w.heap.size w w' := by
  obtain ⟨hge, -, -, -, -, h, cap, hB, hne, g4, c0, c1, c2, c3⟩ := hr
  have hlt : h < w.heap.size := World.block_lt_of_cell? w ⟨h, 0, none⟩ c0
  go_enter Tryz.func95, Tryz.ntmps95
  go_wp2_with fail
  go_loop [4, 5] (fun a i => ∃ k : Nat, k ≤ 2 ∧ a = .bool true ∧ i = .int .i64 (2 * k : Nat)) (fun _ i => (4 - intOf i).toNat)
  case atStart => exact ⟨0, by omega, rfl, rfl⟩
  case round =>
    obtain ⟨k, hk, rfl, rfl⟩ := hrel
    obtain rfl | rfl | rfl : k = 0 ∨ k = 1 ∨ k = 2 := by omega
    · go_wp2_with fail
      go_round
      case rel => exact ⟨1, by omega, rfl, rfl⟩
      case measure => simp [intOf]
    · go_wp2_with fail
      go_round
      case rel => exact ⟨2, by omega, rfl, rfl⟩
      case measure => simp [intOf]
    · have hst := run_storeCells_new (P := Tryz.prog) w 128 Tryz.zeroCells128 Tryz.zeroCells128 (by kernel_rfl) rfl (by kernel_rfl)
      go_wp2_with fail
      clear hst
      have hrow0 : RowB (w.alloc (Obj.cells Tryz.zeroCells128 128)) w.heap.size 256 (tabk 0) := fun j hj => by
        rw [zeroCells128_eq, tabk_zero]
        exact zeros_at w 256 j hj
      have hold0 : Below w.heap.size w (w.alloc (Obj.cells Tryz.zeroCells128 128)) := (Below.refl _ _).alloc (Nat.le_refl _) _
      go_loopw [61] (fun i wr => ∃ k : Nat, k ≤ 256 ∧ i = .int .i64 k ∧ RowB wr w.heap.size 256 (tabk k) ∧ Below w.heap.size w wr) (fun i _ => 256 - (intOf i).toNat)
      case atStart => exact ⟨0, by omega, rfl, hrow0, hold0⟩
      case round =>
        obtain ⟨k, hk, rfl, hown, hB1⟩ := hrel
        clear hrow0 hold0
        by_cases hk2 : k < 256
        · have hcell := (hown k hk2).1
          have hfz := (hown k hk2).2
          have hs := hown.set (tabk_length k) k hk2 (k : Int)
          rw [tabk_set k hk2] at hs
          have HS := Aside0.mk hs
          clear hs
          go_wp2_with fail
          go_roundw
          case rel => exact ⟨k + 1, by omega, by go_num, HS.out, hB1.setCell (p := ⟨w.heap.size, k, none⟩) (Nat.le_refl _) _⟩
          case measure => simp [intOf]; omega
        · have hkk : k = 256 := by omega
          subst hkk
          have d0 := pw_cell_below hB1 c0
          have d1 := pw_cell_below hB1 c1
          have d2 := pw_cell_below hB1 c2
          have d3 := pw_cell_below hB1 c3
          have b2 := a2.toNat_lt
          have b0 := a0.toNat_lt
          have e2 := hown a2.toNat b2
          have g0 : 0 ≤ (a0.toNat : Int) := by omega
          have g2 : 0 ≤ (a2.toNat : Int) := by omega
          have hs2 := hown.set (tabk_length 256) a2.toNat b2 (a3.toNat : Int)
          have hs0 := hs2.set (by simp [tabk_length]) a0.toNat b0 (a1.toNat : Int)
          have e0 := hs2 a0.toNat b0
          obtain ⟨e2a, e2b⟩ := e2
          obtain ⟨e0a, e0b⟩ := e0
          have f0 : (wr.setCell ⟨w.heap.size, a2.toNat, none⟩ (.int .u8 (a3.toNat : Int))).cell? ⟨h, 0, none⟩ = some (.string ⟨#[a0]⟩) := (World.cell?_setCell_far wr ⟨w.heap.size, a2.toNat, none⟩ ⟨h, 0, none⟩ _ (by simp; omega)).trans d0
          have f1 : (wr.setCell ⟨w.heap.size, a2.toNat, none⟩ (.int .u8 (a3.toNat : Int))).cell? ⟨h, 1, none⟩ = some (.string ⟨#[a1]⟩) := (World.cell?_setCell_far wr ⟨w.heap.size, a2.toNat, none⟩ ⟨h, 1, none⟩ _ (by simp; omega)).trans d1
          have HS0 := Aside0.mk hs0
          have HB1 := Aside0.mk hB1
          clear hs0 hs2 hown hB1 c0 c1 c2 c3
          have k0 : ∀ hh : 0 < (⟨#[a0]⟩ : ByteArray).size, (⟨#[a0]⟩ : ByteArray)[0]'hh = a0 := fun _ => rfl
          have k1 : ∀ hh : 0 < (⟨#[a1]⟩ : ByteArray).size, (⟨#[a1]⟩ : ByteArray)[0]'hh = a1 := fun _ => rfl
          have k2 : ∀ hh : 0 < (⟨#[a2]⟩ : ByteArray).size, (⟨#[a2]⟩ : ByteArray)[0]'hh = a2 := fun _ => rfl
          have k3 : ∀ hh : 0 < (⟨#[a3]⟩ : ByteArray).size, (⟨#[a3]⟩ : ByteArray)[0]'hh = a3 := fun _ => rfl
          go_wp2_with fail
          obtain ⟨w1, hw1⟩ : ∃ w1, w1 = wr.setCell ⟨w.heap.size, a2.toNat, none⟩ (.int .u8 (a3.toNat : Int)) := ⟨_, rfl⟩
          rw [← hw1] at f0 f1 e0a e0b HS0
          have HW := Aside0.mk hw1
          clear hw1
          go_loopw [8] (Stage3 wr w1 (w1.setCell ⟨w.heap.size, a0.toNat, none⟩ (.int .u8 (a1.toNat : Int)))) (fun i _ => (intOf i + 2).toNat)
          case atStart => exact .inl ⟨rfl, rfl⟩
          case round =>
            rcases hrel with ⟨rfl, rfl⟩ | ⟨rfl, rfl⟩ | ⟨rfl, rfl⟩
            · go_wp2_with fail
              go_roundw
              case rel => exact .inr (.inl ⟨rfl, HW.out.symm⟩)
              case measure => simp [intOf]
            · go_wp2_with fail
              go_roundw
              case rel => exact .inr (.inr ⟨rfl, rfl⟩)
              case measure => simp [intOf]
            · go_wp2_with fail
              go_ret
              refine ⟨w.heap.size, rfl, Nat.le_refl _, HS0.out, ?_⟩
              rw [HW.out]
              exact (HB1.out.setCell (p := ⟨w.heap.size, a2.toNat, none⟩) (Nat.le_refl _) _).setCell (p := ⟨w.heap.size, a0.toNat, none⟩) (Nat.le_refl _) _
theorem RowB.far {w : World} {g h n : Nat} {xs : List Int} (r : RowB w h n xs) (hne : g ≠ h) (j : Nat) (v : Value) : RowB (w.setCell ⟨g, j, none⟩ v) h n xs := fun i hi =>
  ⟨(World.cell?_setCell_far w ⟨g, j, none⟩ ⟨h, i, none⟩ v hne).trans (r i hi).1, by rw [World.frozen?_setCell]; exact (r i hi).2⟩
def Tabled (B g : Nat) (tab : List Int) (w0 w : World) : Prop := ∃ h, B ≤ h ∧ h ≠ g ∧ w.cell? ⟨g, 3, none⟩ = some (.iface 129 (.pointer (some ⟨h, 0, none⟩))) ∧ RowB w h 256 tab ∧ Below B w0 w
set_option maxRecDepth 100000 in
set_option maxHeartbeats 1000000 in
theorem buildOnce_bytes (B g : Nat) (a0 a1 a2 a3 : UInt8) (w : World) (hr : NewRep B w g 1 ⟨#[a0]⟩ ⟨#[a1]⟩ ⟨#[a2]⟩ ⟨#[a3]⟩) :
    Calls Tryz.prog 81 #[.pointer (some ⟨g, 0, none⟩)] w fun e w' => e = .returned (.tuple #[]) ∧ Held w' g ∧ Tabled B g (tab2 a0 a1 a2 a3) w w' := by
  have HR := Aside0.mk hr
  have hge := hr.ge
  have hlt : g < w.heap.size := World.block_lt_of_cell? w ⟨g, 0, none⟩ hr.done
  go_enter Tryz.func81, Tryz.ntmps81
  go_wp2_with fail
  refine (build_bytes B g 1 a0 a1 a2 a3 w HR.out).mono ?_
  rintro e w1 ⟨h, rfl, hh, hrow, hb⟩
  have d0 := pw_cell_below hb HR.out.done
  have d1 := pw_cell_below hb HR.out.state
  have d3 := pw_cell_below hb HR.out.r
  obtain ⟨k, cap, -, -, d4', -⟩ := HR.out.row
  have d4 := pw_cell_below hb d4'
  clear d4'
  have fz : ∀ j, w1.frozen? ⟨g, j, none⟩ = false := fun j => (hb.frozen (p := ⟨g, j, none⟩) hlt).trans (HR.out.fz j)
  have f3 := fz 3
  have f4 := fz 4
  have HROW := Aside0.mk hrow
  have HB := Aside0.mk hb
  have FZ := Aside0.mk fz
  clear hrow hb fz hr
  go_wp2_with fail
  go_end0
  have hgh : g ≠ h := by omega
  have hBw : Below B w w1 := HB.out.mono (by omega)
  refine ⟨rfl, ⟨?_, ?_, ?_, ?_⟩, h, by omega, by omega, ?_, ?_, (hBw.setCell (p := ⟨g, 3, none⟩) hge _).setCell (p := ⟨g, 4, none⟩) hge _⟩
  · exact (World.cell?_setCell_other _ ⟨g, 4, none⟩ ⟨g, 0, none⟩ _ (by simp)).trans ((World.cell?_setCell_other _ ⟨g, 3, none⟩ ⟨g, 0, none⟩ _ (by simp)).trans d0)
  · exact (World.cell?_setCell_other _ ⟨g, 4, none⟩ ⟨g, 1, none⟩ _ (by simp)).trans ((World.cell?_setCell_other _ ⟨g, 3, none⟩ ⟨g, 1, none⟩ _ (by simp)).trans d1)
  · rw [World.frozen?_setCell, World.frozen?_setCell]; exact FZ.out 0
  · rw [World.frozen?_setCell, World.frozen?_setCell]; exact FZ.out 1
  · exact (World.cell?_setCell_other _ ⟨g, 4, none⟩ ⟨g, 3, none⟩ _ (by simp)).trans (World.cell?_setCell_same _ _ _ d3)
  · exact (HROW.out.far hgh 3 _).far hgh 4 _
end Go.Proofs.YtieompfmhnpnaaaGreat.H
namespace Go.Proofs.YtieompfmhnpnaaaGreat.H
open Go.RowKit Go.Proofs.YtieompfmhnpnaaaGreatW.PrintWords Go.Proofs.YtieompfmhnpnaaaGreatW.PrintLast Go.Proofs.YtieompfmhnpnaaaGreatW.PrintMore
set_option linter.unusedVariables false
set_option linter.unusedSimpArgs false
def tv (tab : List Int) (c : UInt8) : Int := tab.getD c.toNat 0
def tabRow (s : ByteArray) (tab : List Int) (k : Nat) : List Int := (s.data.toList.take k).map (tv tab) ++ (s.data.toList.drop k).map (fun c => (c.toNat : Int))
def tabS (s : ByteArray) (tab : List Int) : ByteArray := strOfNums (s.data.toList.map (tv tab))
theorem tabRow_length (s : ByteArray) (tab : List Int) (k : Nat) (h : k ≤ s.size) : (tabRow s tab k).length = s.size := by
  have : s.data.toList.length = s.size := by simp
  simp [tabRow]
  omega
theorem tabRow_at (s : ByteArray) (tab : List Int) (k : Nat) (h : k < s.size) : (tabRow s tab k).getD k 0 = (s[k].toNat : Int) := by
  have hl : s.data.toList.length = s.size := by simp
  unfold tabRow
  rw [List.getD_eq_getElem?_getD, List.getElem?_append_right (by simp; omega)]
  simp
  rw [Nat.min_eq_left (by omega)]
  simp [h]
  rfl
theorem tabRow_set (s : ByteArray) (tab : List Int) (k : Nat) (h : k < s.size) : (tabRow s tab k).set k (tv tab s[k]) = tabRow s tab (k + 1) := by
  have hl : s.data.toList.length = s.size := by simp
  have hk : k < s.data.toList.length := by omega
  unfold tabRow
  rw [List.set_append_right _ _ (by simp; omega)]
  rw [List.take_succ_eq_append_getElem hk, List.map_append, List.append_assoc]
  congr 1
  have e : s.data.toList.drop k = s.data.toList[k] :: s.data.toList.drop (k + 1) := List.drop_eq_getElem_cons hk
  rw [e]
  simp
  rw [Nat.min_eq_left (by omega)]
  simp
  rfl
theorem tabRow_same (s : ByteArray) (tab : List Int) (k : Nat) (h : k < s.size) (he : tv tab s[k] = (s[k].toNat : Int)) : tabRow s tab (k + 1) = tabRow s tab k := by
  rw [← tabRow_set s tab k h, he]
  have hl := tabRow_length s tab k (by omega)
  apply List.ext_getElem
  · simp
  · intro i h1 h2
    rw [List.getElem_set]
    by_cases e : k = i
    · subst e
      rw [if_pos rfl]
      have := tabRow_at s tab k h
      rw [List.getD_eq_getElem?_getD, List.getElem?_eq_getElem h2] at this
      simpa using this.symm
    · rw [if_neg e]
theorem tabRow_end (s : ByteArray) (tab : List Int) : strOfNums (tabRow s tab s.size) = tabS s tab := by
  have hl : s.data.toList.length = s.size := by simp
  unfold tabRow tabS
  rw [List.drop_of_length_le (by omega), List.take_of_length_le (by omega)]
  simp
theorem tabRow_zero (s : ByteArray) (tab : List Int) : strOfNums (tabRow s tab 0) = s := by
  unfold tabRow
  have := byteInts_back s.data.toList
  unfold byteInts at this
  simpa using this
def BufSt (B : Nat) (s : ByteArray) (tab : List Int) (k : Nat) (v : Value) (w : World) : Prop :=
  (v = .slice none 0 0 ∧ tabRow s tab k = tabRow s tab 0) ∨ ∃ g cap, B ≤ g ∧ v = .slice (some ⟨g, 0, none⟩) s.size cap ∧ RowB w g s.size (tabRow s tab k)
theorem row_of_bytes (w : World) (s : ByteArray) (tab : List Int) : RowB (Lib.bytesWorld w 5 s) w.heap.size s.size (tabRow s tab 0) := fun j hj => by
  refine ⟨?_, ?_⟩
  · rw [Lib.bytesWorld_cell w 5 s j hj]
    simp [tabRow, List.getD, hj]
  · have hb := Lib.bytesWorld_at_new w 5 s
    have hz : s.size ≤ (Lib.bytesCells w 5 s).size := by simp [Lib.bytesCells]
    unfold World.frozen?
    rw [show (Lib.bytesWorld w 5 s).heap[(⟨w.heap.size, j, none⟩ : Addr).block]? = _ from hb]
    simp
    omega
theorem below_bytes {B : Nat} {w W : World} (h : Below B w W) (hB : B ≤ W.heap.size) (s : ByteArray) : Below B w (Lib.bytesWorld W 5 s) := by
  refine h.trans ⟨rfl, rfl, rfl, ?_, fun i hi => Lib.bytesWorld_at_old W 5 s i (by omega)⟩
  rw [Lib.bytesWorld_size]
  omega
theorem RowB.below {w w1 : World} {h n : Nat} {xs : List Int} {B : Nat} (r : RowB w h n xs) (hb : Below B w w1) (hB : h < B) : RowB w1 h n xs := fun j hj =>
  ⟨(hb.cell (p := ⟨h, j, none⟩) hB).trans (r j hj).1, (hb.frozen (p := ⟨h, j, none⟩) hB).trans (r j hj).2⟩
set_option maxRecDepth 100000 in
set_option maxHeartbeats 1000000 in
theorem byteReplace (h : Nat) (tab : List Int) (s : ByteArray) (w : World) (hs : s.size ≤ 1099511627776) (hr : RowB w h 256 tab) (hlt : h < w.heap.size) :
    Calls Tryz.prog 156 #[.pointer (some ⟨h, 0, none⟩), .string s] w fun e w' => e = .returned (.string (tabS s tab)) ∧ Below w.heap.size w w' := by
  have hcv : ∀ W : World, (convert 9 45 (.string s)).run Tryz.prog W = .ok (.slice (some ⟨W.heap.size, 0, none⟩) s.size (grownCap W s.size 0 5)) (Lib.bytesWorld W 5 s) := fun W => Lib.run_convert_string_bytes W 9 45 5 s Tryz.underlying9 Tryz.underlying45 Tryz.underlying5
  have qT : ∀ (w : World) (a : Option Addr) (n c n' c' : Nat), (binOp .eql 45 (.slice a n c) (.slice none n' c')).run Tryz.prog w = .ok (.bool a.isNone) w := fun w a n c n' c' => Lib.run_eql_slice_nil w _ _ a n c n' c' Tryz.underlying45
  go_enter Tryz.func156, Tryz.ntmps156
  go_wp2_with fail
  go_loopw [5, 6] (fun v i wr => ∃ k : Nat, k ≤ s.size ∧ i = .int .i64 k ∧ BufSt w.heap.size s tab k v wr ∧ Below w.heap.size w wr) (fun _ i _ => s.size - (intOf i).toNat)
  case atStart => exact ⟨0, Nat.zero_le _, rfl, .inl ⟨rfl, rfl⟩, Below.refl _ _⟩
  case round =>
    obtain ⟨k, hk, rfl, hbuf, hB⟩ := hrel
    have hr1 := hr.below hB hlt
    by_cases hk2 : k < s.size
    · have hc := s[k].toNat_lt
      have g0 : 0 ≤ (s[k].toNat : Int) := by omega
      have hcell := (hr1 s[k].toNat hc).1
      have htv : tab.getD s[k].toNat 0 = tv tab s[k] := rfl
      rw [htv] at hcell
      by_cases he : tv tab s[k] = (s[k].toNat : Int)
      · have hb : (tv tab s[k] != (s[k].toNat : Int)) = false := by simpa using he
        have hsame := tabRow_same s tab k hk2 he
        have HS := Lib.hid hsame
        have HBUF := Aside0.mk hbuf
        clear hsame he hbuf htv hr1 hr
        go_wp2_with fail
        go_roundw
        case rel =>
          refine ⟨k + 1, by omega, by go_num, ?_, hB⟩
          unfold BufSt
          rw [HS.out]
          exact HBUF.out
        case measure => simp [intOf]; omega
      · have hb : (tv tab s[k] != (s[k].toNat : Int)) = true := by simpa using he
        rcases hbuf with ⟨rfl, h0⟩ | ⟨g, cap, hg, rfl, hrow⟩
        · have hrow := row_of_bytes wr s tab
          rw [← h0] at hrow
          have hcell2 := (((hr.below hB hlt).below (below_bytes (Below.refl wr.heap.size wr) (Nat.le_refl _) s) (by have := hB.size; omega)) s[k].toNat hc).1
          rw [htv] at hcell2
          have hk0 := (hrow k hk2).1
          have hkf := (hrow k hk2).2
          have hset := hrow.set (tabRow_length s tab k (by omega)) k hk2 (tv tab s[k])
          rw [tabRow_set s tab k hk2] at hset
          have HSET := Aside0.mk hset
          have HB2 := Aside0.mk (below_bytes hB hB.size s)
          clear hset hrow h0 he htv hr1 hr
          have hsz := hB.size
          go_wp2_with fail
          go_roundw
          case rel => exact ⟨k + 1, by omega, by go_num, .inr ⟨wr.heap.size, _, hsz, rfl, HSET.out⟩, HB2.out.setCell (p := ⟨wr.heap.size, k, none⟩) hsz _⟩
          case measure => simp [intOf]; omega
        · have hk0 := (hrow k hk2).1
          have hkf := (hrow k hk2).2
          have hset := hrow.set (tabRow_length s tab k (by omega)) k hk2 (tv tab s[k])
          rw [tabRow_set s tab k hk2] at hset
          have HSET := Aside0.mk hset
          clear hset hrow he htv hr1 hr
          go_wp2_with fail
          go_roundw
          case rel => exact ⟨k + 1, by omega, by go_num, .inr ⟨g, cap, hg, rfl, HSET.out⟩, hB.setCell (p := ⟨g, k, none⟩) hg _⟩
          case measure => simp [intOf]; omega
    · have hkk : k = s.size := by omega
      subst hkk
      rcases hbuf with ⟨rfl, h0⟩ | ⟨g, cap, hg, rfl, hrow⟩
      · have hend := tabRow_end s tab
        rw [h0, tabRow_zero] at hend
        have HE := Lib.hid hend
        clear hend h0 hr hr1
        go_wp2_with fail
        go_ret
        exact ⟨congrArg (fun x => Ending.returned (Value.string x)) HE.out, hB⟩
      · have hc := fun cap => run_convert_bytes_arg (P := Tryz.prog) wr 45 5 Tryz.underlying45 Tryz.underlying5 g 0 s.size cap _ (tabRow_length s tab _ (Nat.le_refl _)) (fun i hi => by rw [Nat.zero_add]; exact (hrow i hi).1) 9 Tryz.underlying9
        rw [tabRow_end] at hc
        clear hr hr1 hrow
        go_wp2_with fail
        go_ret
        exact ⟨rfl, hB⟩
theorem method129 (a : Addr) (w : World) : (method 290 129 (.pointer (some a)) "Replace").run Tryz.prog w = .ok (156, .pointer (some a)) w := by kernel_rfl
set_option maxRecDepth 100000 in
set_option maxHeartbeats 1000000 in
theorem replace_bytes (B g : Nat) (a0 a1 a2 a3 : UInt8) (s : ByteArray) (w : World) (hs : s.size ≤ 1099511627776) (hB : B ≤ w.heap.size) (hr : NewRep B w g 0 ⟨#[a0]⟩ ⟨#[a1]⟩ ⟨#[a2]⟩ ⟨#[a3]⟩) :
    Calls Tryz.prog 53 #[.pointer (some ⟨g, 0, none⟩), .string s] w fun e w' => e = .returned (.string (tabS s (tab2 a0 a1 a2 a3))) ∧ Below B w w' := by
  have hge := hr.ge
  have hlock := hr.locked 1
  have hfn := buildOnce_bytes B g a0 a1 a2 a3 _ hlock
  have hfresh : Fresh w g := ⟨hr.done, hr.state, hr.fz 0, hr.fz 1⟩
  have HFN := Aside0.mk hfn
  clear hfn hlock hr
  go_enter Tryz.func53, Tryz.ntmps53
  go_wp2_with fail
  refine (do_first g w hfresh _ HFN.out).mono ?_
  rintro e w1 ⟨rfl, w2, ⟨h, hh, hhg, hc3, hrow, hb⟩, hw⟩
  have e3 : w1.cell? ⟨g, 3, none⟩ = some (.iface 129 (.pointer (some ⟨h, 0, none⟩))) := by
    rw [hw]
    exact (World.cell?_setCell_other _ ⟨g, 1, none⟩ ⟨g, 3, none⟩ _ (by simp)).trans ((World.cell?_setCell_other _ ⟨g, 0, none⟩ ⟨g, 3, none⟩ _ (by simp)).trans hc3)
  have hrow1 : RowB w1 h 256 (tab2 a0 a1 a2 a3) := by
    rw [hw]
    exact (RowB.far (w := w2.drew) hrow (Ne.symm hhg) 0 _).far (Ne.symm hhg) 1 _
  have hb1 : Below B w w1 := by
    rw [hw]
    exact (((((Below.refl B w).setCell (p := ⟨g, 1, none⟩) hge _).trans hb).drew).setCell (p := ⟨g, 0, none⟩) hge _).setCell (p := ⟨g, 1, none⟩) hge _
  have hlt : h < w1.heap.size := World.block_lt_of_cell? w1 ⟨h, 0, none⟩ (hrow1 0 (by decide)).1
  clear hw hrow hb hc3
  have HROW := Aside0.mk hrow1
  have HB := Aside0.mk hb1
  clear hrow1 hb1
  have hm := method129
  go_wp2_with fail
  refine (byteReplace h _ s w1 hs HROW.out hlt).mono ?_
  rintro e w3 ⟨rfl, hb3⟩
  have HB3 := Aside0.mk hb3
  clear hb3
  go_wp2_with fail
  go_ret
  exact ⟨rfl, HB.out.trans (HB3.out.mono (by have := HB.out.size; omega))⟩
end Go.Proofs.YtieompfmhnpnaaaGreat.H
end
section
namespace Go.Proofs.YtieompfmhnpnaaaGreat.H
open Go.RowKit Go.Proofs.YtieompfmhnpnaaaGreatW.PrintWords Go.Proofs.YtieompfmhnpnaaaGreatW.PrintLast Go.Proofs.YtieompfmhnpnaaaGreatW.PrintMore
set_option linter.unusedVariables false
set_option linter.unusedSimpArgs false
def Bld (B bb : Nat) (l : List UInt8) (w : World) : Prop := Lib.IsBuilderF 66 5 B bb (Lib.byteCells l) w
theorem byteCells_append (l m : List UInt8) : Lib.byteCells (l ++ m) = Lib.byteCells l ++ Lib.byteCells m := by simp [Lib.byteCells]
structure BKept (B bb : Nat) (w w' : World) : Prop where
  below : Below B w w'
  others : Lib.OthersKept 5 (some bb) w w'
theorem BKept.refl (B bb : Nat) (w : World) : BKept B bb w w := ⟨Below.refl _ _, Lib.OthersKept.refl _ _ _⟩
theorem BKept.trans {B bb : Nat} {a b c : World} (h : BKept B bb a b) (k : BKept B bb b c) : BKept B bb a c := ⟨h.below.trans k.below, h.others.trans k.others⟩
theorem BKept.drawn {B bb : Nat} {a b c : World} (h : BKept B bb a b) (k : Drawn0 b c) : BKept B bb a c := by
  obtain ⟨n, rfl⟩ := k
  exact ⟨pw_below_drewN h.below n, fun i o hi hb ho => h.others i o hi hb ho⟩
theorem BKept.made {B bb : Nat} {a b c : World} (h : BKept B bb a b) (k : Below b.heap.size b c) (hB : B ≤ b.heap.size) : BKept B bb a c :=
  ⟨h.below.trans (k.mono hB), fun i o hi hb ho => by
    have h1 := h.others i o hi hb ho
    exact (k.block i (Array.getElem?_eq_some_iff.1 h1).1).trans h1⟩
theorem Bld.keep {B bb : Nat} {l : List UInt8} {a b : World} (h : Bld B bb l a) (k : Below a.heap.size a b) : Bld B bb l b := by
  have key : ∀ p, Lib.BuilderAtF 66 5 B bb p (Lib.byteCells l) a → Lib.BuilderAtF 66 5 B bb p (Lib.byteCells l) b := fun p hp => by
    obtain ⟨h1, v, h2, h3, h4⟩ := hp
    exact ⟨h1, v, (k.block bb (Array.getElem?_eq_some_iff.1 h2).1).trans h2, h3.kept (grown_of_below k none) (by cases v.ownBlock <;> simp), h4⟩
  rcases h with h | h
  · exact .inl (key _ h)
  · exact .inr (key _ h)
theorem wstr (B bb : Nat) (l : List UInt8) (s : ByteArray) (w : World) (h : Bld B bb l w) (hlen : l.length + s.size ≤ 140737488355328) (hB : B ≤ w.heap.size) :
    Calls Tryz.prog 51 #[.pointer (some ⟨bb, 0, none⟩), .string s] w fun e w' => e = .returned (.tuple #[.int .i64 s.size, .nilIface]) ∧ Bld B bb (l ++ s.data.toList) w' ∧ BKept B bb w w' := by
  refine (Tryz.WriteString B bb (Lib.byteCells l) s w h (by rw [Lib.byteCells_length]; exact hlen) hB).mono ?_
  rintro e w' ⟨rfl, h1, h2, h3⟩
  exact ⟨rfl, .inr (by rw [byteCells_append]; exact h1), h2, h3⟩
theorem wbyte (B bb : Nat) (l : List UInt8) (c : UInt8) (w : World) (h : Bld B bb l w) (hlen : l.length + 1 ≤ 140737488355328) (hB : B ≤ w.heap.size) :
    Calls Tryz.prog 83 #[.pointer (some ⟨bb, 0, none⟩), .int .u8 c.toNat] w fun e w' => e = .returned .nilIface ∧ Bld B bb (l ++ [c]) w' ∧ BKept B bb w w' := by
  refine (Tryz.WriteByte B bb (Lib.byteCells l) c.toNat w h (by rw [Lib.byteCells_length]; exact hlen) hB).mono ?_
  rintro e w' ⟨rfl, h1, h2, h3⟩
  exact ⟨rfl, .inr (by rw [byteCells_append]; exact h1), h2, h3⟩
theorem boxed_cell {w : World} {x bb : Nat} (h : w.heap[x]? = some (.cells #[.pointer (some ⟨bb, 0, none⟩)] 64 (0, 0))) : w.cell? ⟨x, 0, none⟩ = some (.pointer (some ⟨bb, 0, none⟩)) := by
  simp [World.cell?, h]
theorem BKept.box {B bb x : Nat} {w w' : World} (h : BKept B bb w w') (hx : w.heap[x]? = some (.cells #[.pointer (some ⟨bb, 0, none⟩)] 64 (0, 0))) (hne : x ≠ bb) : w'.heap[x]? = some (.cells #[.pointer (some ⟨bb, 0, none⟩)] 64 (0, 0)) :=
  h.others x _ hx (fun e => hne (Option.some.inj e)) (fun c fz e => by injection e with _ e2; exact absurd e2 (by decide))
set_option maxHeartbeats 1000000 in
set_option maxRecDepth 100000 in
theorem end_calls (B bb x : Nat) (l : List UInt8) (s : ByteArray) (w : World) (h : Bld B bb l w) (hlen : l.length + s.size + 1 ≤ 140737488355328) (hB : B ≤ w.heap.size) (hx : w.heap[x]? = some (.cells #[.pointer (some ⟨bb, 0, none⟩)] 64 (0, 0))) (hne : x ≠ bb) :
    Calls Tryz.prog 82 #[.string s, .pointer (some ⟨x, 0, none⟩)] w fun e w' => e = .returned (.tuple #[]) ∧ Bld B bb (l ++ (s.data.toList ++ [10])) w' ∧ BKept B bb w w' := by
  have hc := boxed_cell hx
  have H := Aside0.mk h
  have HX := Aside0.mk hx
  clear h hx
  go_enter Tryz.func82, Tryz.ntmps82
  go_wp2_with fail
  refine (wstr B bb l s w H.out (by omega) hB).mono ?_
  rintro e w1 ⟨rfl, h1, k1⟩
  have H1 := Aside0.mk h1
  have hB1 : B ≤ w1.heap.size := by have := k1.below.size; omega
  have hx1 := k1.box HX.out hne
  have hc1 := boxed_cell hx1
  have K1 := Aside0.mk k1
  clear h1 k1 hx1
  go_wp2_with fail
  refine (wbyte B bb (l ++ s.data.toList) 10 w1 H1.out (by simp; omega) hB1).mono ?_
  rintro e w2 ⟨rfl, h2, k2⟩
  have H2 := Aside0.mk h2
  have K2 := Aside0.mk k2
  clear h2 k2
  go_wp2_with fail
  go_end0
  exact ⟨rfl, by rw [← List.append_assoc]; exact H2.out, K1.out.trans K2.out⟩
def foldL : Nat → ByteArray → Nat → List UInt8
  | 0, s, _ => s.data.toList ++ [10]
  | f + 1, s, bound =>
    if s.size ≤ 78 then s.data.toList ++ [10]
    else if 0 < foldAtS s bound then (s.extract 0 (foldAtS s bound)).data.toList ++ [10] ++ foldL f (s.extract (foldAtS s bound) s.size) 0
    else if s.size ≤ 998 then s.data.toList ++ [10]
    else (s.extract 0 998).data.toList ++ [10] ++ foldL f (⟨#[32]⟩ ++ s.extract 998 s.size) 0
theorem downTo_le (p : Nat → Bool) (lo n : Nat) : downTo p lo n ≤ n := by
  induction n with
  | zero => exact Nat.le_refl _
  | succ n ih => unfold downTo; split <;> (try split) <;> omega
theorem upTo_lt (p : Nat → Bool) : ∀ f i, (upTo p i f < i + f ∧ 0 < f) ∨ upTo p i f = 0
  | 0, i => .inr rfl
  | f + 1, i => by
    unfold upTo
    split
    · left; omega
    · rcases upTo_lt p f (i + 1) with h | h
      · left; omega
      · right; exact h
theorem foldAtS_le (s : ByteArray) (bound : Nat) : foldAtS s bound ≤ s.size := by
  unfold foldAtS
  simp only
  split
  · rcases upTo_lt (isFoldB s) (min 998 (s.size - 2) - max 78 bound) (max 78 bound + 1) with h | h <;> omega
  · have := downTo_le (isFoldB s) bound (min 78 (min 998 (s.size - 2)))
    omega
def FoldRest (l : List UInt8) (s0 : ByteArray) (b0 : Nat) (l' : List UInt8) (s : ByteArray) (b : Nat) : Prop :=
  ∃ f, s.size ≤ f ∧ l ++ foldL s0.size s0 b0 = l' ++ foldL f s b
theorem FoldRest.cut {l : List UInt8} {s0 : ByteArray} {b0 : Nat} {l' : List UInt8} {s : ByteArray} {b : Nat} (h : FoldRest l s0 b0 l' s b) (h78 : 78 < s.size) (hi : 0 < foldAtS s b) :
    FoldRest l s0 b0 (l' ++ ((s.extract 0 (foldAtS s b)).data.toList ++ [10])) (s.extract (foldAtS s b) s.size) 0 := by
  obtain ⟨f, hf, e⟩ := h
  obtain ⟨f, rfl⟩ : ∃ g, f = g + 1 := ⟨f - 1, by omega⟩
  refine ⟨f, by simp; omega, ?_⟩
  rw [e]
  conv => lhs; unfold foldL
  rw [if_neg (by omega), if_pos hi]
  simp
theorem FoldRest.hard {l : List UInt8} {s0 : ByteArray} {b0 : Nat} {l' : List UInt8} {s : ByteArray} {b : Nat} (h : FoldRest l s0 b0 l' s b) (h78 : 78 < s.size) (hi : ¬ 0 < foldAtS s b) (h998 : ¬ s.size ≤ 998) :
    FoldRest l s0 b0 (l' ++ ((s.extract 0 998).data.toList ++ [10])) (⟨#[32]⟩ ++ s.extract 998 s.size) 0 := by
  obtain ⟨f, hf, e⟩ := h
  obtain ⟨f, rfl⟩ : ∃ g, f = g + 1 := ⟨f - 1, by omega⟩
  refine ⟨f, ?_, ?_⟩
  · rw [ByteArray.size_append]
    have : (⟨#[32]⟩ : ByteArray).size = 1 := rfl
    simp
    omega
  rw [e]
  conv => lhs; unfold foldL
  rw [if_neg (by omega), if_neg hi, if_neg h998]
  simp
theorem FoldRest.stop {l : List UInt8} {s0 : ByteArray} {b0 : Nat} {l' : List UInt8} {s : ByteArray} {b : Nat} (h : FoldRest l s0 b0 l' s b) (hs : s.size ≤ 78 ∨ (¬ 0 < foldAtS s b ∧ s.size ≤ 998)) :
    l ++ foldL s0.size s0 b0 = l' ++ (s.data.toList ++ [10]) := by
  obtain ⟨f, hf, e⟩ := h
  rw [e]
  cases f with
  | zero => rfl
  | succ f =>
    unfold foldL
    rcases hs with h | ⟨h1, h2⟩
    · rw [if_pos h]
    · by_cases h3 : s.size ≤ 78
      · rw [if_pos h3]
      · rw [if_neg h3, if_neg h1, if_pos h2]
set_option maxHeartbeats 2000000 in
set_option maxRecDepth 100000 in
theorem fold_calls (B bb : Nat) (l : List UInt8) (s : ByteArray) (bound : Nat) (w : World) (h : Bld B bb l w) (hb : bound ≤ 1000) (hlen : l.length + 2 * s.size + 2 ≤ 1099511627776) (hB : B ≤ w.heap.size) :
    Calls Tryz.prog 56 #[.pointer (some ⟨bb, 0, none⟩), .string s, .int .i64 bound] w fun e w' => e = .returned (.tuple #[]) ∧ Bld B bb (l ++ foldL s.size s bound) w' ∧ BKept B bb w w' := by
  obtain ⟨W, hW⟩ : ∃ W, W = w.alloc (Obj.cells #[.pointer (some ⟨bb, 0, none⟩)] 64) := ⟨_, rfl⟩
  have hbel : Below w.heap.size w W := by rw [hW]; exact (Below.refl _ _).alloc (Nat.le_refl _) _
  have hx : W.heap[w.heap.size]? = some (.cells #[.pointer (some ⟨bb, 0, none⟩)] 64 (0, 0)) := by rw [hW]; exact heap_alloc_new w _
  have hsz : W.heap.size = w.heap.size + 1 := by rw [hW, World.size_alloc]
  have hlt : bb < w.heap.size := by
    rcases h with ⟨_, v, h2, _⟩ | ⟨_, v, h2, _⟩ <;> exact (Array.getElem?_eq_some_iff.1 h2).1
  have h0 : Bld B bb l W := h.keep hbel
  have hk0 : BKept B bb w W := (BKept.refl B bb w).made hbel hB
  have HW := Aside0.mk hW
  clear hW h hbel
  go_enter Tryz.func56, Tryz.ntmps56
  go_wp2_with fail
  go_step3
  go_wp2_with fail
  go_step3
  go_wp2_with fail
  rw [← HW.out]
  have hne : w.heap.size ≠ bb := by omega
  go_loopw [1, 2] (fun v b wr => ∃ (l' : List UInt8) (s1 : ByteArray) (b1 : Nat), v = .string s1 ∧ b = .int .i64 b1 ∧ b1 ≤ 1000 ∧ l'.length + 2 * s1.size + 2 ≤ 1099511627776 ∧ Aside0 (FoldRest l s bound l' s1 b1) ∧ Aside0 (Bld B bb l' wr) ∧ Aside0 (BKept B bb w wr) ∧ Aside0 (wr.heap[w.heap.size]? = some (.cells #[.pointer (some ⟨bb, 0, none⟩)] 64 (0, 0)))) (fun v _ _ => match v with | .string x => x.size | _ => 0)
  case atStart => exact ⟨l, s, bound, rfl, rfl, hb, hlen, ⟨s.size, Nat.le_refl _, rfl⟩, ⟨h0⟩, ⟨hk0⟩, ⟨hx⟩⟩
  case round =>
    clear h0 hk0 hx hsz
    obtain ⟨l', s1, b1, rfl, rfl, hb1, hl1, hf, hbl, hkp, hxx⟩ := hrel
    by_cases h78 : 78 < s1.size
    · obtain ⟨i, hi⟩ : ∃ i, i = foldAtS s1 b1 := ⟨_, rfl⟩
      have hile : i ≤ s1.size := by rw [hi]; exact foldAtS_le s1 b1
      have hcall := foldAt_calls s1 b1 wr (by omega) h78 hb1
      rw [← hi] at hcall
      have HC := Aside0.mk hcall
      have hsw : ∀ w1, Below wr.heap.size wr w1 → Aside0 (Bld B bb l' w1) ∧ Aside0 (BKept B bb w w1) ∧ Aside0 (w1.heap[w.heap.size]? = some (.cells #[.pointer (some ⟨bb, 0, none⟩)] 64 (0, 0))) ∧ Aside0 (B ≤ w1.heap.size) := fun w1 hb2 =>
        ⟨⟨hbl.out.keep hb2⟩, ⟨hkp.out.made hb2 (by have := hkp.out.below.size; omega)⟩, ⟨(hb2.block _ (Array.getElem?_eq_some_iff.1 hxx.out).1).trans hxx.out⟩, ⟨by have := hkp.out.below.size; have := hb2.size; omega⟩⟩
      have HSW := Aside0.mk hsw
      have HI := Lib.hid hi
      clear hcall hsw hbl hkp hxx hi
      by_cases h0 : 0 < i
      · go_wp2_with fail
        refine (HC.out).mono ?_
        rintro e w1 ⟨rfl, hb2⟩
        obtain ⟨hbl, hkp, hxx, hB1⟩ := HSW.out w1 hb2
        clear hb2 HSW HC
        go_wp2_with fail
        refine (end_calls B bb w.heap.size l' (s1.extract 0 i) w1 hbl.out (by simp; omega) hB1.out hxx.out hne).mono ?_
        rintro e w2 ⟨rfl, h2, k2⟩
        have H2 := Aside0.mk h2
        have K2 := Aside0.mk k2
        clear h2 k2
        go_wp2_with fail
        go_roundw
        case rel => exact ⟨l' ++ ((s1.extract 0 i).data.toList ++ [10]), s1.extract i s1.size, 0, rfl, rfl, by omega, by simp; omega, ⟨by have := hf.out.cut h78 (by rw [← HI.out]; exact h0); rw [← HI.out] at this; exact this⟩, H2, ⟨hkp.out.trans K2.out⟩, ⟨K2.out.box hxx.out hne⟩⟩
        case measure => simp; omega
      · by_cases h998 : s1.size ≤ 998
        · go_wp2_with fail
          refine (HC.out).mono ?_
          rintro e w1 ⟨rfl, hb2⟩
          obtain ⟨hbl, hkp, hxx, hB1⟩ := HSW.out w1 hb2
          clear hb2 HSW HC
          go_wp2_with fail
          refine (end_calls B bb w.heap.size l' s1 w1 hbl.out (by omega) hB1.out hxx.out hne).mono ?_
          rintro e w2 ⟨rfl, h2, k2⟩
          have H2 := Aside0.mk h2
          have K2 := Aside0.mk k2
          clear h2 k2
          go_wp2_with fail
          rw [Exit.noGoto_normal]
          go_end0
          have hs := hf.out.stop (.inr ⟨by rw [← HI.out]; exact h0, h998⟩)
          exact ⟨rfl, by rw [hs]; exact H2.out, hkp.out.trans K2.out⟩
        · go_wp2_with fail
          refine (HC.out).mono ?_
          rintro e w1 ⟨rfl, hb2⟩
          obtain ⟨hbl, hkp, hxx, hB1⟩ := HSW.out w1 hb2
          clear hb2 HSW HC
          go_wp2_with fail
          refine (end_calls B bb w.heap.size l' (s1.extract 0 998) w1 hbl.out (by simp; omega) hB1.out hxx.out hne).mono ?_
          rintro e w2 ⟨rfl, h2, k2⟩
          have H2 := Aside0.mk h2
          have K2 := Aside0.mk k2
          clear h2 k2
          go_wp2_with fail
          go_roundw
          case rel => exact ⟨l' ++ ((s1.extract 0 998).data.toList ++ [10]), ⟨#[32]⟩ ++ s1.extract 998 s1.size, 0, rfl, rfl, by omega, by rw [ByteArray.size_append, show (⟨#[32]⟩ : ByteArray).size = 1 from rfl]; simp; omega, ⟨hf.out.hard h78 (by rw [← HI.out]; exact h0) h998⟩, H2, ⟨hkp.out.trans K2.out⟩, ⟨K2.out.box hxx.out hne⟩⟩
          case measure => simp [show (⟨#[32]⟩ : ByteArray).size = 1 from rfl]; omega
    · go_wp2_with fail
      refine (end_calls B bb w.heap.size l' s1 wr hbl.out (by omega) (by have := hkp.out.below.size; omega) hxx.out hne).mono ?_
      rintro e w2 ⟨rfl, h2, k2⟩
      have H2 := Aside0.mk h2
      have K2 := Aside0.mk k2
      clear h2 k2
      go_wp2_with fail
      rw [Exit.noGoto_normal]
      go_end0
      have hs := hf.out.stop (.inl (by omega))
      exact ⟨rfl, by rw [hs]; exact H2.out, hkp.out.trans K2.out⟩
end Go.Proofs.YtieompfmhnpnaaaGreat.H
end
section
namespace Go.Proofs.YtieompfmhnpnaaaGreat.H
open Go.RowKit Go.Proofs.YtieompfmhnpnaaaGreatW.PrintWords Go.Proofs.YtieompfmhnpnaaaGreatW.PrintLast Go.Proofs.YtieompfmhnpnaaaGreatW.PrintMore
set_option linter.unusedVariables false
set_option linter.unusedSimpArgs false
abbrev bl (s : ByteArray) : List UInt8 := s.data.toList
abbrev mkB (l : List UInt8) : ByteArray := ⟨l.toArray⟩
theorem bl_mkB (l : List UInt8) : bl (mkB l) = l := rfl
theorem mkB_bl (s : ByteArray) : mkB (bl s) = s := rfl
theorem bl_length (s : ByteArray) : (bl s).length = s.size := by simp
theorem mkB_size (l : List UInt8) : (mkB l).size = l.length := by simp [ByteArray.size]
theorem bl_inj {s t : ByteArray} (h : bl s = bl t) : s = t := by rw [← mkB_bl s, ← mkB_bl t, h]
theorem toList_bl (s : ByteArray) : s.toList = bl s := Lib.toList_data s
theorem bl_append (s t : ByteArray) : bl (s ++ t) = bl s ++ bl t := by simp [bl]
theorem bl_extract (s : ByteArray) (i j : Nat) : bl (s.extract i j) = ((bl s).take j).drop i := by
  simp [bl]
  rw [List.drop_take]
theorem ev_yes {α : Type} {c : Prop} [Decidable c] {a b : Nat → Option α} {r : α} (h : c) (k : Ev a r) : Ev (fun n => if c then a n else b n) r := by
  refine Ev.congr (fun n => ?_) k
  rw [if_pos h]
theorem ev_no {α : Type} {c : Prop} [Decidable c] {a b : Nat → Option α} {r : α} (h : ¬ c) (k : Ev b r) : Ev (fun n => if c then a n else b n) r := by
  refine Ev.congr (fun n => ?_) k
  rw [if_neg h]
theorem ev_done {α : Type} {a r : α} (h : a = r) : Ev (fun _ => some a) r := by
  rw [h]
  exact Ev.now r
theorem bt_byteAt (s : ByteArray) (i : Nat) (h : i < s.size) : bt s (i : Int) = ((byteAt s i).toNat : Int) := by
  rw [← bt_at s i (by simpa using h), byteAt_get s _ (by simpa using h)]
  rfl
theorem byteAt_list (s : ByteArray) (i : Nat) (h : i < s.size) : (bl s)[i]? = some (byteAt s i) := by
  unfold byteAt
  rw [List.getElem?_eq_getElem (by rw [bl_length]; exact h), List.getD_eq_getElem?_getD, List.getElem?_eq_getElem (by rw [bl_length]; exact h)]
  rfl
theorem drop_byteAt (s : ByteArray) (i : Nat) (h : i < s.size) : (bl s).drop i = byteAt s i :: (bl s).drop (i + 1) := by
  have hl := bl_length s
  rw [List.drop_eq_getElem_cons (by omega)]
  have := byteAt_list s i h
  rw [List.getElem?_eq_getElem (by omega)] at this
  rw [Option.some.inj this]
theorem take_byteAt (s : ByteArray) (i : Nat) (h : i < s.size) : (bl s).take (i + 1) = (bl s).take i ++ [byteAt s i] := by
  have hl := bl_length s
  rw [List.take_succ_eq_append_getElem (by omega)]
  have := byteAt_list s i h
  rw [List.getElem?_eq_getElem (by omega)] at this
  rw [Option.some.inj this]
theorem wrap_up (i : Nat) (h : i < 4611686018427387904) : wrap64 ((i : Int) + 1) = ((i + 1 : Nat) : Int) := by
  unfold wrap64; omega
theorem wrap_down (i : Nat) (h0 : 0 < i) (h : i < 4611686018427387904) : wrap64 ((i : Int) - 1) = ((i - 1 : Nat) : Int) := by
  unfold wrap64; omega
def wsB (c : UInt8) : Bool := c == 9 || c == 10 || c == 13 || c == 32
theorem u8_eq (c : UInt8) (n : Nat) (hn : n < 256) : (c == UInt8.ofNat n) = decide ((c.toNat : Int) = (n : Int)) := by
  rw [Bool.eq_iff_iff]
  simp
  constructor
  · rintro rfl; simp; omega
  · intro h
    have : c.toNat = n := by omega
    rw [← this]; simp
theorem white_at (c : UInt8) : text_white.f (c.toNat : Int) = some (wsB c) := by
  unfold text_white.f wsB
  have e9 := u8_eq c 9 (by decide)
  have e10 := u8_eq c 10 (by decide)
  have e13 := u8_eq c 13 (by decide)
  have e32 := u8_eq c 32 (by decide)
  simp at e9 e10 e13 e32
  rw [e9, e10, e13, e32]
  by_cases h9 : (c.toNat : Int) = 9
  · simp [h9]
  · by_cases h10 : (c.toNat : Int) = 10
    · simp [h10]
    · by_cases h13 : (c.toNat : Int) = 13
      · simp [h13]
      · rw [if_neg h9, if_neg h10, if_neg h13]
        have g9 : ¬ c.toNat = 9 := by omega
        have g10 : ¬ c.toNat = 10 := by omega
        have g13 : ¬ c.toNat = 13 := by omega
        simp [g9, g10, g13]
        rw [Bool.eq_iff_iff]
        simp
        omega
def rtrim (l : List UInt8) : List UInt8 := (l.reverse.dropWhile wsB).reverse
theorem rtrim_snoc (l : List UInt8) (c : UInt8) : rtrim (l ++ [c]) = if wsB c then rtrim l else l ++ [c] := by
  unfold rtrim
  rw [List.reverse_append]
  simp [List.dropWhile_cons]
  split <;> simp
theorem rtrim_nil : rtrim [] = [] := rfl
def trimL (l : List UInt8) : List UInt8 := rtrim (l.dropWhile wsB)
def trimS (s : ByteArray) : ByteArray := mkB (trimL (bl s))
theorem trim_l1 (s : ByteArray) (hs : s.size ≤ 1099511627776) (i : Nat) : ∀ (n j : Nat), i ≤ j → j ≤ s.size → j - i = n →
    Ev (fun k => text_Trim.l1 k s (i : Int) (j : Int)) (mkB (rtrim (((bl s).take j).drop i)))
  | 0, j, hi, hj, hn => by
    obtain rfl : i = j := by omega
    refine Ev.step (fun k => by simp only [text_Trim.l1]; rfl) ?_
    refine ev_no (by omega) ?_
    refine ev_yes (by omega) ?_
    refine ev_yes (by omega) ?_
    refine ev_yes (by omega) ?_
    have : ((bl s).take i).drop i = [] := by simp
    rw [this, rtrim_nil]
    refine ev_done ?_
    apply bl_inj
    rw [bl_extract]
    simp
  | n + 1, j, hi, hj, hn => by
    have hlt : i < j := by omega
    have hw := wrap_down j (by omega) (by omega)
    refine Ev.step (fun k => by simp only [text_Trim.l1]; rfl) ?_
    have h1 : (i : Int) < (j : Int) := by omega
    have h2 : 0 ≤ ((j - 1 : Nat) : Int) := by omega
    have h3 : ((j - 1 : Nat) : Int) < (s.size : Int) := by omega
    have hb := bt_byteAt s (j - 1) (by omega)
    have ht := take_byteAt s (j - 1) (by omega)
    rw [show j - 1 + 1 = j from by omega] at ht
    have hd : ((bl s).take j).drop i = ((bl s).take (j - 1)).drop i ++ [byteAt s (j - 1)] := by
      rw [ht, List.drop_append_of_le_length (by rw [List.length_take, bl_length]; omega)]
    refine ev_yes h1 ?_
    simp only [hw]
    refine ev_yes h2 (ev_yes h3 ?_)
    simp only [hb, white_at, Option.bind_some]
    rw [hd, rtrim_snoc]
    by_cases hws : wsB (byteAt s (j - 1)) = true
    · rw [hws]
      exact ev_yes rfl (trim_l1 s hs i n (j - 1) (by omega) (by omega) (by omega))
    · have hws' : wsB (byteAt s (j - 1)) = false := by simpa using hws
      rw [hws']
      refine ev_no (by decide) ?_
      refine ev_yes (by omega) (ev_yes (by omega) (ev_yes (by omega) ?_))
      refine ev_done ?_
      apply bl_inj
      rw [bl_extract, if_neg (by decide), bl_mkB, ← hd]
      simp
theorem trim_l0 (s : ByteArray) (hs : s.size ≤ 1099511627776) : ∀ (n i : Nat), i + n = s.size →
    Ev (fun k => text_Trim.l0 k s (i : Int) (s.size : Int)) (mkB (trimL ((bl s).drop i)))
  | 0, i, hi => by
    have hl := bl_length s
    refine Ev.step (fun k => by simp only [text_Trim.l0]; rfl) ?_
    refine ev_no (by omega) ?_
    refine Ev.step (fun k => by simp only [text_Trim.j1]; rfl) ?_
    have := trim_l1 s hs i 0 s.size (by omega) (by omega) (by omega)
    have e : (bl s).drop i = [] := List.drop_of_length_le (by omega)
    rw [e]
    rw [List.take_of_length_le (by omega), e] at this
    exact this
  | n + 1, i, hi => by
    have hl := bl_length s
    refine Ev.step (fun k => by simp only [text_Trim.l0]; rfl) ?_
    have hb := bt_byteAt s i (by omega)
    refine ev_yes (by omega) ?_
    refine ev_yes (by omega) ?_
    refine ev_yes (by omega) ?_
    simp only [hb, white_at, Option.bind_some]
    rw [drop_byteAt s i (by omega)]
    by_cases hws : wsB (byteAt s i) = true
    · simp only [hws, if_true]
      have e : trimL (byteAt s i :: (bl s).drop (i + 1)) = trimL ((bl s).drop (i + 1)) := by
        unfold trimL
        rw [List.dropWhile_cons_of_pos hws]
      rw [e, wrap_up i (by omega)]
      exact trim_l0 s hs n (i + 1) (by omega)
    · simp only [hws, if_false]
      refine Ev.step (fun k => by simp only [text_Trim.j1]; rfl) ?_
      have := trim_l1 s hs i (s.size - i) s.size (by omega) (by omega) (by omega)
      rw [List.take_of_length_le (by omega), drop_byteAt s i (by omega)] at this
      unfold trimL
      rw [List.dropWhile_cons_of_neg hws]
      exact this
theorem trim_ev (s : ByteArray) (hs : s.size ≤ 1099511627776) : Ev (fun k => text_Trim.f k s) (trimS s) := by
  have := trim_l0 s hs s.size 0 (by omega)
  simpa [text_Trim.f, trimS] using this
theorem trim_size (s : ByteArray) : (trimS s).size ≤ s.size := by
  unfold trimS
  rw [mkB_size]
  have h1 : (trimL (bl s)).length ≤ (bl s).length := by
    unfold trimL rtrim
    rw [List.length_reverse]
    refine Nat.le_trans (List.dropWhile_suffix _).length_le ?_
    rw [List.length_reverse]
    exact (List.dropWhile_suffix _).length_le
  rw [bl_length] at h1
  exact h1
def visB (c : UInt8) : Bool := 33 ≤ c.toNat && c.toNat ≤ 126
theorem visible_at (c : UInt8) : header_visible.f (c.toNat : Int) = some (visB c) := by
  unfold header_visible.f visB
  by_cases h : 33 ≤ c.toNat
  · rw [if_pos (by omega)]
    simp [h]
    omega
  · rw [if_neg (by omega)]
    simp [h]
def isNameB (s : ByteArray) : Bool := 1 ≤ s.size && s.size ≤ 200 && (bl s).all (fun c => visB c && c != 58)
theorem isName_l0 (s : ByteArray) (hs : s.size ≤ 1099511627776) : ∀ (n i : Nat), i + n = s.size →
    Ev (fun k => header_isName.l0 k s (s.size : Int) (i : Int)) (((bl s).drop i).all (fun c => visB c && c != 58))
  | 0, i, hi => by
    have hl := bl_length s
    refine Ev.step (fun k => by simp only [header_isName.l0]; rfl) ?_
    refine ev_no (by omega) ?_
    exact ev_done (by rw [List.drop_of_length_le (by omega)]; rfl)
  | n + 1, i, hi => by
    refine Ev.step (fun k => by simp only [header_isName.l0]; rfl) ?_
    have hb := bt_byteAt s i (by omega)
    refine ev_yes (by omega) ?_
    refine ev_yes (by omega) ?_
    refine ev_yes (by omega) ?_
    simp only [hb, visible_at, Option.bind_some]
    rw [drop_byteAt s i (by omega), List.all_cons]
    have e58 := u8_eq (byteAt s i) 58 (by decide)
    simp at e58
    by_cases hv : visB (byteAt s i) = true
    · simp only [hv, if_true, Bool.true_and]
      by_cases h58 : ((byteAt s i).toNat : Int) = 58
      · have h58' : (byteAt s i).toNat = 58 := by omega
        have h2 : (byteAt s i != 58) = false := by
          rw [bne_eq_false_iff_eq]
          exact UInt8.toNat_inj.1 (by simpa using h58')
        rw [h2]
        simp only [if_pos h58, Bool.false_and]
        exact Ev.now _
      · have h2 : (byteAt s i != 58) = true := by
          rw [bne_iff_ne]
          intro h
          rw [h] at h58
          exact h58 rfl
        rw [h2]
        simp only [Bool.true_and]
        refine ev_no h58 ?_
        rw [wrap_up i (by omega)]
        exact isName_l0 s hs n (i + 1) (by omega)
    · have hv' : visB (byteAt s i) = false := by simpa using hv
      simp only [hv', Bool.false_and]
      exact Ev.now _
theorem isName_ev (s : ByteArray) (hs : s.size ≤ 1099511627776) : Ev (fun k => header_isName.f k s) (isNameB s) := by
  unfold header_isName.f isNameB
  by_cases h1 : s.size < 1
  · simp only [show ((s.size : Int) < 1) from by omega, if_true]
    refine Ev.step (fun k => by simp only [header_isName.j0]; rfl) ?_
    have : decide (1 ≤ s.size) = false := by simpa using h1
    simp only [if_true, this, Bool.false_and]
    exact Ev.now _
  · simp only [show ¬ ((s.size : Int) < 1) from by omega, if_false]
    refine Ev.step (fun k => by simp only [header_isName.j0]; rfl) ?_
    by_cases h2 : s.size > 200
    · have e : decide ((s.size : Int) > 200) = true := by simp; omega
      have e2 : decide (s.size ≤ 200) = false := by simp; omega
      simp only [e, if_true, e2, Bool.and_false, Bool.false_and]
      exact Ev.now _
    · have e : decide ((s.size : Int) > 200) = false := by simp; omega
      have e2 : decide (s.size ≤ 200) = true := by simp; omega
      have e1 : decide (1 ≤ s.size) = true := by simp; omega
      simp only [e, e1, e2, Bool.and_true, Bool.true_and]
      have := isName_l0 s hs s.size 0 (by omega)
      simpa using this
end Go.Proofs.YtieompfmhnpnaaaGreat.H
end
section
namespace Go.Proofs.YtieompfmhnpnaaaGreat.H
open Go.RowKit Go.Proofs.YtieompfmhnpnaaaGreatW.PrintWords Go.Proofs.YtieompfmhnpnaaaGreatW.PrintLast Go.Proofs.YtieompfmhnpnaaaGreatW.PrintMore
set_option linter.unusedVariables false
set_option linter.unusedSimpArgs false
def crlfS (s : ByteArray) : ByteArray := tabS s (tab2 13 32 10 32)
def lineS (f : S35) : ByteArray :=
  if (trimS (crlfS f.f1)).size = 0 then f.f0 ++ ⟨#[58]⟩ else (f.f0 ++ ⟨#[58]⟩) ++ (⟨#[32]⟩ ++ trimS (crlfS f.f1))
def fieldL (f : S35) : List UInt8 := if isNameB f.f0 then foldL (lineS f).size (lineS f) (f.f0.size + 1) else []
def writeL (l : List S35) : List UInt8 := l.flatMap fieldL
def wsum (l : List S35) : Nat := (l.map fun f => 4 * (f.f0.size + f.f1.size) + 16).sum
theorem foldL_length : ∀ (f : Nat) (s : ByteArray) (b : Nat), (foldL f s b).length ≤ 2 * s.size + 1
  | 0, s, b => by unfold foldL; simp; omega
  | f + 1, s, b => by
    unfold foldL
    split
    · simp; omega
    · split
      · have := foldL_length f (s.extract (foldAtS s b) s.size) 0
        have := foldAtS_le s b
        simp at *
        omega
      · split
        · simp; omega
        · have := foldL_length f (⟨#[32]⟩ ++ s.extract 998 s.size) 0
          rw [ByteArray.size_append, show (⟨#[32]⟩ : ByteArray).size = 1 from rfl] at this
          simp at *
          omega
theorem tabS_size (s : ByteArray) (t : List Int) : (tabS s t).size = s.size := by
  unfold tabS
  rw [strOfNums_size]
  simp
theorem lineS_size (f : S35) : (lineS f).size ≤ f.f0.size + f.f1.size + 2 := by
  have h := trim_size (crlfS f.f1)
  have h2 := tabS_size f.f1 (tab2 13 32 10 32)
  unfold crlfS at h
  unfold lineS crlfS
  have z1 : (⟨#[58]⟩ : ByteArray).size = 1 := rfl
  have z2 : (⟨#[32]⟩ : ByteArray).size = 1 := rfl
  split
  · rw [ByteArray.size_append, z1]; omega
  · rw [ByteArray.size_append, ByteArray.size_append, ByteArray.size_append, z1, z2]; omega
theorem fieldL_length (f : S35) : (fieldL f).length ≤ 4 * (f.f0.size + f.f1.size) + 16 := by
  unfold fieldL
  split
  · have := foldL_length (lineS f).size (lineS f) (f.f0.size + 1)
    have := lineS_size f
    omega
  · simp
theorem keep_far {W w w' : World} {b : Nat} (h : Below W.heap.size w w') (hb : b < W.heap.size) {j : Nat} : w'.cell? ⟨b, j, none⟩ = w.cell? ⟨b, j, none⟩ := h.cell (p := ⟨b, j, none⟩) hb
theorem new_replacer_at (x0 x1 x2 x3 : ByteArray) (W : World) (b : Nat) (hb : b = W.heap.size) :
    Calls Tryz.prog 52 #[.slice (some ⟨b, 0, none⟩) 4 4] (W.alloc (.cells #[.string x0, .string x1, .string x2, .string x3] 9)) fun e w' => ∃ g, e = .returned (.pointer (some ⟨g, 0, none⟩)) ∧ NewRep W.heap.size w' g 0 x0 x1 x2 x3 ∧ Below W.heap.size W w' := by
  subst hb
  refine (new_replacer W.heap.size x0 x1 x2 x3 _ (by simp) (by simp) (by simp) (by simp)).mono ?_
  rintro e w' ⟨g, rfl, hr, hb⟩
  rw [World.size_alloc] at hr hb
  refine ⟨g, rfl, ?_, ((Below.refl _ _).alloc (Nat.le_refl _) _).trans (hb.mono (by omega))⟩
  obtain ⟨h1, h2, h3, h4, h5, h, cap, h6, h7⟩ := hr
  exact ⟨by omega, h2, h3, h4, h5, h, cap, by omega, h7⟩
theorem le_sum : ∀ {l : List Nat} {x : Nat}, x ∈ l → x ≤ l.sum
  | y :: l, x, h => by
    rw [List.sum_cons]
    rcases List.mem_cons.1 h with rfl | h
    · omega
    · have := le_sum h
      omega
theorem wsum_cons (x : S35) (l : List S35) : wsum (x :: l) = 4 * (x.f0.size + x.f1.size) + 16 + wsum l := by simp [wsum]
theorem wsum_len (l : List S35) : 16 * l.length ≤ wsum l := by
  induction l with
  | nil => simp
  | cons x l ih => rw [wsum_cons, List.length_cons]; omega
theorem wsum_at (l : List S35) (k : Nat) (h : k < l.length) : 4 * ((rd_T35 l (k : Int)).f0.size + (rd_T35 l (k : Int)).f1.size) + 16 ≤ wsum l := by
  have e : rd_T35 l (k : Int) = l[k] := by simp [rd_T35, List.getD, h]
  rw [e]
  unfold wsum
  have : 4 * (l[k].f0.size + l[k].f1.size) + 16 ∈ l.map (fun f => 4 * (f.f0.size + f.f1.size) + 16) := List.mem_map.2 ⟨l[k], List.getElem_mem h, rfl⟩
  exact le_sum this
theorem writeL_take (l : List S35) (k : Nat) (h : k < l.length) : writeL (l.take (k + 1)) = writeL (l.take k) ++ fieldL (rd_T35 l (k : Int)) := by
  have e : rd_T35 l (k : Int) = l[k] := by simp [rd_T35, List.getD, h]
  rw [e, List.take_succ_eq_append_getElem h]
  unfold writeL
  rw [List.flatMap_append]
  simp only [List.flatMap_cons, List.flatMap_nil, List.append_nil]
theorem writeL_length (l : List S35) : (writeL l).length ≤ wsum l := by
  induction l with
  | nil => simp [writeL, wsum]
  | cons x l ih =>
    have := fieldL_length x
    rw [wsum_cons]
    unfold writeL at *
    rw [List.flatMap_cons, List.length_append]
    omega
theorem wsum_take (l : List S35) (k : Nat) : wsum (l.take k) ≤ wsum l := by
  unfold wsum
  have : l = l.take k ++ l.drop k := (List.take_append_drop k l).symm
  conv => rhs; rw [this]
  rw [List.map_append, List.sum_append]
  omega
set_option maxHeartbeats 4000000 in
set_option maxRecDepth 100000 in
theorem write_calls (A0 : Option Addr) (c0 : Nat) (l0 : List S35) (w : World) (hr0 : Kd.C k35 w A0 l0.length l0) (hc0 : l0.length ≤ c0) (hs : wsum l0 ≤ 137438953472) :
    Calls Tryz.prog 21 #[.slice A0 l0.length c0] w fun e w' => e = .returned (.string (mkB (writeL l0))) ∧ Below w.heap.size w w' := by
  have hu35 := Tryz.underlying35
  have HR0 := Aside0.mk hr0
  clear hr0
  go_enter Tryz.func21, Tryz.ntmps21
  go_wp2_with fail
  obtain ⟨W, hW⟩ : ∃ W, W = w.alloc (Obj.cells #[Value.pointer none, Value.slice none 0 0] 66) := ⟨_, rfl⟩
  have hb0 : Bld w.heap.size w.heap.size [] W := by
    rw [hW]
    rcases Lib.fresh_isBuilder 66 5 w with h | h
    · exact .inl (Lib.BuilderAtF.of h)
    · exact .inr (Lib.BuilderAtF.of h)
  have hB0 : Below w.heap.size w W := by rw [hW]; exact (Below.refl _ _).alloc (Nat.le_refl _) _
  rw [← hW]
  clear hW
  go_loopw [10] (fun v wr => ∃ k : Nat, k ≤ l0.length ∧ v = .int .i64 k ∧ Aside0 (Bld w.heap.size w.heap.size (writeL (l0.take k)) wr) ∧ Aside0 (Below w.heap.size w wr)) (fun v _ => l0.length - (intOf v).toNat)
  case atStart => exact ⟨0, Nat.zero_le _, rfl, ⟨hb0⟩, ⟨hB0⟩⟩
  case round =>
    clear hb0 hB0
    obtain ⟨k, hk, rfl, hbl, hbel⟩ := hrel
    by_cases hlt : k < l0.length
    · obtain ⟨ad, rfl, hx0, hx1⟩ := at_T35 HR0.out (k : Int) (by omega) (by omega)
      obtain ⟨x, hx⟩ : ∃ x, x = rd_T35 l0 (k : Int) := ⟨_, rfl⟩
      rw [← hx] at hx0 hx1
      replace hx0 := (hbel.out.cell (World.block_lt_of_cell? w _ hx0)).trans hx0
      replace hx1 := (hbel.out.cell (World.block_lt_of_cell? w _ hx1)).trans hx1
      simp only [Int.toNat_natCast] at hx0 hx1
      have hsum := wsum_at l0 k hlt
      rw [← hx] at hsum
      have hlen := wsum_len l0
      have hout := Nat.le_trans (writeL_length (l0.take k)) (wsum_take l0 k)
      have hnext := writeL_take l0 k hlt
      rw [← hx] at hnext
      have HX := Lib.hid hx
      have HN := Lib.hid hnext
      clear hx hnext
      obtain ⟨kn, hkn⟩ := (isName_ev x.f0 (by omega)).rounds
      have HKN := Aside0.mk hkn
      clear hkn
      have hBsz := hbel.out.size
      obtain ⟨fb, hfb⟩ : ∃ fb, fb = wr.heap.size := ⟨_, rfl⟩
      obtain ⟨w1, hw1⟩ : ∃ w1, w1 = wr.alloc (.cells #[.string x.f0, .string x.f1] 35) := ⟨_, rfl⟩
      have hb1 : Below wr.heap.size wr w1 := by rw [hw1]; exact (Below.refl _ _).alloc (Nat.le_refl _) _
      have hc0' : w1.cell? ⟨fb, 0, none⟩ = some (.string x.f0) := by rw [hw1, hfb]; simp
      have hc1' : w1.cell? ⟨fb, 1, none⟩ = some (.string x.f1) := by rw [hw1, hfb]; simp
      have hlt1 : fb < w1.heap.size := by rw [hw1, hfb, World.size_alloc]; omega
      have HB1 := Aside0.mk hb1
      have HW1 := Aside0.mk hw1
      have HFB := Aside0.mk hfb
      clear hb1 hw1 hfb
      by_cases hnm : isNameB x.f0 = true
      · rw [hnm] at HKN
        have HNM := Lib.hid hnm
        clear hnm
        have hf1 : x.f1.size ≤ 1099511627776 := by omega
        obtain ⟨kt, hkt⟩ := (trim_ev (tabS x.f1 (tab2 13 32 10 32)) (by rw [tabS_size]; omega)).rounds
        have HT := Aside0.mk hkt
        clear hkt
        go_wp2_with fail
        rw [← HW1.out, ← HFB.out]
        refine (header_isName.calls kn _ _ _ HKN.out).mono ?_
        rintro e w2 ⟨rfl, ⟨n, rfl⟩⟩
        go_wp2_with fail
        go_region_held3 (fun w' => w'.cell? ⟨fb, 1, none⟩ = some (.string x.f1)) (first | go_keep | (exact pw_cell_below (by assumption) (by assumption)) | (exact (keep_far (by assumption) hlt1).trans (by assumption)))
          (first
            | (go_at_call 52; refine (new_replacer_at _ _ _ _ _ _ rfl).mono ?_; rintro e w3 ⟨g3, rfl, hg3, hb3⟩)
            | (go_at_call 53; refine (replace_bytes _ g3 13 32 10 32 _ _ hf1 hb3.size hg3).mono ?_; rintro e w4 ⟨rfl, hb4⟩)
            | (go_at_call 24; refine (text_Trim.calls kt _ _ _ HT.out).mono ?_; rintro e w5 ⟨rfl, ⟨n5, rfl⟩⟩))
        have hb4' : Below w1.heap.size w1 w4 := (pw_below_drewN (Below.refl _ _) _).trans (hb3.trans hb4)
        have hc04 := (keep_far hb4' hlt1 (j := 0)).trans hc0'
        have HB4 := Aside0.mk hb4'
        clear hb3 hb4 hb4' hg3
        obtain ⟨v, hv⟩ : ∃ v, v = trimS (tabS x.f1 (tab2 13 32 10 32)) := ⟨_, rfl⟩
        rw [← hv]
        have hvs : v.size ≤ x.f1.size := by rw [hv]; have := trim_size (tabS x.f1 (tab2 13 32 10 32)); rw [tabS_size] at this; exact this
        have HV := Lib.hid hv
        clear hv
        obtain ⟨line, hline⟩ : ∃ line, line = lineS x := ⟨_, rfl⟩
        have hlsz : line.size ≤ x.f0.size + x.f1.size + 2 := by rw [hline]; exact lineS_size x
        have HLINE := Lib.hid hline
        clear hline
        have hbld : Bld w.heap.size w.heap.size (writeL (l0.take k)) (w4.drewN n5) := ((hbl.out.keep HB1.out).keep HB4.out).keep (pw_below_drewN (Below.refl _ _) n5)
        have HBLD := Aside0.mk hbld
        clear hbld
        have hnsz : x.f0.size ≤ 200 := by
          have := HNM.out
          unfold isNameB at this
          simp at this
          exact this.1.2
        have hszz := HB1.out.size
        by_cases hz : v.size = 0
        · have hve : v.toList.isEmpty = true := by rw [toList_bl, List.isEmpty_iff_length_eq_zero, bl_length]; exact hz
          have hln : line = x.f0 ++ ⟨#[58]⟩ := by rw [HLINE.out]; unfold lineS crlfS; rw [← HV.out, if_pos hz]
          go_wp2_with fail
          rw [show ((x.f0.size : Int) + 1) = ((x.f0.size + 1 : Nat) : Int) from by omega, ← hln]
          refine (fold_calls w.heap.size w.heap.size (writeL (l0.take k)) line (x.f0.size + 1) _ HBLD.out (by omega) (by omega) (by have := HB4.out.size; show w.heap.size ≤ w4.heap.size; omega)).mono ?_
          rintro e w6 ⟨rfl, h6, k6⟩
          have H6 := Aside0.mk h6
          have K6 := Aside0.mk k6
          clear h6 k6
          go_wp2_with fail
          go_roundw
          case rel =>
            refine ⟨k + 1, by omega, by go_num, ⟨?_⟩, ⟨?_⟩⟩
            · rw [HN.out]
              have : fieldL x = foldL line.size line (x.f0.size + 1) := by unfold fieldL; rw [HNM.out, HLINE.out]; rfl
              rw [this]
              exact H6.out
            · exact (pw_below_drewN (hbel.out.trans ((HB1.out.mono hBsz).trans (HB4.out.mono (by omega)))) n5).trans K6.out.below
          case measure => simp [intOf]; omega
        · have hve : v.toList.isEmpty = false := by
            rw [toList_bl]
            cases h : bl v with
            | nil => exfalso; apply hz; rw [← bl_length, h]; rfl
            | cons _ _ => rfl
          have hln : line = (x.f0 ++ ⟨#[58]⟩) ++ (⟨#[32]⟩ ++ v) := by rw [HLINE.out]; unfold lineS crlfS; rw [← HV.out, if_neg hz]
          go_wp2_with fail
          rw [show ((x.f0.size : Int) + 1) = ((x.f0.size + 1 : Nat) : Int) from by omega, ← hln]
          refine (fold_calls w.heap.size w.heap.size (writeL (l0.take k)) line (x.f0.size + 1) _ HBLD.out (by omega) (by omega) (by have := HB4.out.size; show w.heap.size ≤ w4.heap.size; omega)).mono ?_
          rintro e w6 ⟨rfl, h6, k6⟩
          have H6 := Aside0.mk h6
          have K6 := Aside0.mk k6
          clear h6 k6
          go_wp2_with fail
          go_roundw
          case rel =>
            refine ⟨k + 1, by omega, by go_num, ⟨?_⟩, ⟨?_⟩⟩
            · rw [HN.out]
              have : fieldL x = foldL line.size line (x.f0.size + 1) := by unfold fieldL; rw [HNM.out, HLINE.out]; rfl
              rw [this]
              exact H6.out
            · exact (pw_below_drewN (hbel.out.trans ((HB1.out.mono hBsz).trans (HB4.out.mono (by omega)))) n5).trans K6.out.below
          case measure => simp [intOf]; omega
      · have hnm' : isNameB x.f0 = false := by simpa using hnm
        rw [hnm'] at HKN
        have HNM := Lib.hid hnm'
        clear hnm hnm'
        go_wp2_with fail
        rw [← HW1.out, ← HFB.out]
        refine (header_isName.calls kn _ _ _ HKN.out).mono ?_
        rintro e w2 ⟨rfl, ⟨n, rfl⟩⟩
        go_wp2_with fail
        go_roundw
        case rel =>
          refine ⟨k + 1, by omega, by go_num, ⟨?_⟩, ⟨?_⟩⟩
          · rw [HN.out]
            have : fieldL x = [] := by unfold fieldL; rw [HNM.out]; rfl
            rw [this, List.append_nil]
            exact (hbl.out.keep HB1.out).keep (pw_below_drewN (Below.refl _ _) n)
          · exact pw_below_drewN (hbel.out.trans (HB1.out.mono hBsz)) n
        case measure => simp [intOf]; omega
    · have hkk : k = l0.length := by omega
      subst hkk
      go_wp2_with fail
      refine (Tryz.Builder_String_any_k w.heap.size w.heap.size (writeL (l0.take l0.length)) wr hbl.out hbel.out.size).mono ?_
      rintro e w6 ⟨rfl, -, hb6, -⟩
      go_wp2_with fail
      go_ret
      exact ⟨rfl, hbel.out.trans hb6⟩
def header_Write.f (l0 : List S35) : Option ByteArray := if wsum l0 ≤ 137438953472 then some (mkB (writeL l0)) else none
theorem header_Write.calls (A0 : Option Addr) (c0 : Nat) (l0 : List S35) (r : ByteArray) (w : World) (hr0 : Kd.C k35 w A0 l0.length l0) (hc0 : l0.length ≤ c0) (h : header_Write.f l0 = some r) :
    Calls Tryz.prog 21 #[.slice A0 l0.length c0] w fun e w' => e = .returned (.string r) ∧ Below w.heap.size w w' := by
  unfold header_Write.f at h
  by_cases hs : wsum l0 ≤ 137438953472
  · rw [if_pos hs] at h
    obtain rfl := Option.some.inj h
    exact write_calls A0 c0 l0 w hr0 hc0 hs
  · rw [if_neg hs] at h
    cases h
end Go.Proofs.YtieompfmhnpnaaaGreat.H
end
