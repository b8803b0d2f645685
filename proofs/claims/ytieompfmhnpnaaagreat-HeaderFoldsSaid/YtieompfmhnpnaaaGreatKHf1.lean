/- Part 1 of the proof of Hf: contracts and plain laws, joined and shortened by bundle.py of this repo. -/
import Derived.Test.YtieompfmhnpnaaaGreatKHf0
import Derived.Shelf.Strings.Builder1
import Derived.Shelf.Strings.Builder2
import Derived.Shelf.Strings.OnBuilder
import Derived.Shelf.Small.Strs
import Derived.Shelf.Strings.BuilderF
import Derived.Shelf.Strings.BuilderK
import Derived.Shelf.Strings.Search1
import Derived.Shelf.Strings.Search2
import Derived.Shelf.Strings.Search3
import Derived.Shelf.Strings.Cut
import Derived.Shelf.Strings.Count
import Derived.Shelf.LaysM
import Derived.Shelf.Strings.Shaped
import Derived.Shelf.Strings.Prefix
import Derived.Test.YtieompfmhnpnaaaGreatProg
import Derived.Lib.Hide
import Derived.Lib.CutLaws
import Derived.IntWalk
import Derived.Deep.QuietTactic
import Derived.BigQuiet
import Derived.Deep.RegionHeld3
import Derived.Maps.AppendAt
import Derived.RangeFuncNested
import Derived.RangeFuncBox
import Derived.RangeFuncLeaves
import Derived.Shelf.Abstract
import Derived.WalkKit
import Derived.OwnWalkIn
import Derived.TacticsInMore
import Derived.LoopNIn
import Derived.LoopIn
import Derived.Laws.EntriesVeiled
import Derived.Conc.MuLone
import Derived.Defers
import Derived.Laws.LoneSync
import Derived.Laws.NewBlocks
import Derived.RegionTactic
import Derived.RegionCalls
import Derived.KernelRfl
section
namespace Go.Proofs.YtieompfmhnpnaaaGreat.H
open Go.RowKit Go.Proofs.YtieompfmhnpnaaaGreatW.PrintWords Go.Proofs.YtieompfmhnpnaaaGreatW.PrintLast Go.Proofs.YtieompfmhnpnaaaGreatW.PrintMore
attribute [local go_sem] max2_int min2_int max_two min_two max_three min_three max_four min_four
set_option linter.unusedVariables false
set_option linter.unusedSimpArgs false
theorem eqA25 (d : Nat) (w : World) (x0 y0 : ByteArray) (x1 y1 : ByteArray) :
    (Op.equalIn (d + 2) 25 (.agg #[.string x0, .string x1]) (.agg #[.string y0, .string y1])).run Tryz.prog w = .ok (x0.toList == y0.toList && (x1.toList == y1.toList)) w := by
  refine eqA_of Tryz.underlying25 (by kernel_rfl) ?_
  refine eqf_cons (by rfl) (by go_simp; rfl) (by go_simp; rfl) (by go_simp) ?_
  exact eqf_last (by rfl) (by go_simp; rfl) (by go_simp; rfl) (by go_simp)
end Go.Proofs.YtieompfmhnpnaaaGreat.H
namespace Go.Proofs.YtieompfmhnpnaaaGreat.H
open Go.RowKit Go.Proofs.YtieompfmhnpnaaaGreatW.PrintWords Go.Proofs.YtieompfmhnpnaaaGreatW.PrintLast Go.Proofs.YtieompfmhnpnaaaGreatW.PrintMore
attribute [local go_sem] max2_int min2_int max_two min_two max_three min_three max_four min_four
set_option linter.unusedVariables false
set_option linter.unusedSimpArgs false
theorem eqA35 (d : Nat) (w : World) (x0 y0 : ByteArray) (x1 y1 : ByteArray) :
    (Op.equalIn (d + 2) 35 (.agg #[.string x0, .string x1]) (.agg #[.string y0, .string y1])).run Tryz.prog w = .ok (x0.toList == y0.toList && (x1.toList == y1.toList)) w := by
  refine eqA_of Tryz.underlying35 (by kernel_rfl) ?_
  refine eqf_cons (by rfl) (by go_simp; rfl) (by go_simp; rfl) (by go_simp) ?_
  exact eqf_last (by rfl) (by go_simp; rfl) (by go_simp; rfl) (by go_simp)
end Go.Proofs.YtieompfmhnpnaaaGreat.H
namespace Go.Proofs.YtieompfmhnpnaaaGreat.H
open Go.RowKit Go.Proofs.YtieompfmhnpnaaaGreatW.PrintWords Go.Proofs.YtieompfmhnpnaaaGreatW.PrintLast Go.Proofs.YtieompfmhnpnaaaGreatW.PrintMore
attribute [local go_sem] max2_int min2_int max_two min_two max_three min_three max_four min_four
set_option linter.unusedVariables false
set_option linter.unusedSimpArgs false
attribute [local go_sem high] eqA25 eqA35
def missiveref09_SameParams.l0 : Nat → List (S25) → List (S25) → Int → Option (Bool)
  | 0, _, _, _ => none
  | k + 1, x0, x1, x5 => if x5 < (x0.length : Int) then (if 0 ≤ x5 then (if x5 < (x1.length : Int) then (if (!((((rd_T25 x0 x5).f0).toList) == (((rd_T25 x1 x5).f0).toList)) || (!((((rd_T25 x0 x5).f1).toList) == (((rd_T25 x1 x5).f1).toList)))) = true then (some false) else (missiveref09_SameParams.l0 k x0 x1 (wrap64 (x5 + 1)))) else (none)) else (none)) else (some true)
def missiveref09_SameParams.f (k : Nat) (l0 : List (S25)) (l1 : List (S25)) : Option (Bool) := if (l0.length : Int) = (l1.length : Int) then (missiveref09_SameParams.l0 k l0 l1 0) else (some false)
theorem missiveref09_SameParams.mono_l : ∀ k, (∀ y0 y1 y2, LeO (missiveref09_SameParams.l0 k y0 y1 y2) (missiveref09_SameParams.l0 (k + 1) y0 y1 y2))
  | 0 => fun _ _ _ r h => by simp [missiveref09_SameParams.l0] at h
  | k + 1 => by
    have ih0 := missiveref09_SameParams.mono_l k
    · intro y0 y1 y2
      unfold missiveref09_SameParams.l0
      repeat' first
      | (with_reducible exact ih0 _ _ _)
      | (with_reducible exact LeO.refl _)
      | (with_reducible exact LeO.none _)
      | (with_reducible refine LeO.ite ?_ ?_)
      | (with_reducible refine LeO.bind ?_ (fun _ => ?_))
      | exact ih0 _ _ _
      | exact LeO.none _
      | refine LeO.ite ?_ ?_
      | refine LeO.bind ?_ (fun _ => ?_)
theorem missiveref09_SameParams.mono : ∀ a0 a1 k, LeO (missiveref09_SameParams.f k a0 a1) (missiveref09_SameParams.f (k + 1) a0 a1) := by
  intro a0 a1 k
  have ih0 := missiveref09_SameParams.mono_l k
  unfold missiveref09_SameParams.f
  repeat' first
      | (with_reducible exact ih0 _ _ _)
      | (with_reducible exact LeO.refl _)
      | (with_reducible exact LeO.none _)
      | (with_reducible refine LeO.ite ?_ ?_)
      | (with_reducible refine LeO.bind ?_ (fun _ => ?_))
      | exact ih0 _ _ _
      | exact LeO.none _
      | refine LeO.ite ?_ ?_
      | refine LeO.bind ?_ (fun _ => ?_)
set_option maxHeartbeats 8000000 in
set_option maxRecDepth 100000 in
theorem missiveref09_SameParams.calls (k : Nat) (A0 : Option Addr) (c0 : Nat) (l0 : List (S25)) (A1 : Option Addr) (c1 : Nat) (l1 : List (S25)) (r : Bool) (w : World) (hr0 : Kd.C k25 w A0 l0.length l0) (hc0 : l0.length ≤ c0) (hr1 : Kd.C k25 w A1 l1.length l1) (hc1 : l1.length ≤ c1) (h : missiveref09_SameParams.f k l0 l1 = some r) :
    Calls Tryz.prog 15 #[.slice A0 l0.length c0, .slice A1 l1.length c1] w fun e w' => e = .returned (.bool r) ∧ Drawn0 w w' := by
  have hu25 := Tryz.underlying25
  have HR0 := Aside0.mk hr0
  have HC0 := Aside0.mk hc0
  clear hr0 hc0
  have HR1 := Aside0.mk hr1
  have HC1 := Aside0.mk hc1
  clear hr1 hc1
  have H : (if (l0.length : Int) = (l1.length : Int) then (missiveref09_SameParams.l0 k l0 l1 0) else (some false)) = some r := h
  clear h
  by_cases c3 : (l0.length : Int) = (l1.length : Int)
  · rw [if_pos c3] at H
    have c3b0 : ((l0.length : Int) == (l1.length : Int)) = true := beq_iff_eq.mpr c3
    have c3b1 : ((l0.length : Int) != (l1.length : Int)) = false := bne_eq_false_iff_eq.mpr c3
    have c3b2 : (l0.length == l1.length) = true := by first | simpa using c3 | (simp at c3 ⊢; omega)
    clear c3
    have H' := Aside0.mk H
    clear H
    go_enter Tryz.func15, Tryz.ntmps15
    go_wp2
    repeat (go_quiet (fail); try go_wp2)
    go_loopg [5] k (fun kq v5 w' => ∃ (x5_1 : Int), v5 = .int .i64 x5_1 ∧ Aside0 (missiveref09_SameParams.l0 kq l0 l1 x5_1 = some r) ∧ Aside0 (kq ≤ k) ∧ Drawn0 w w')
    case atStart => exact ⟨(0), (by first | rfl | (simp; done) | (simp [*]; done)), H', ⟨Nat.le_refl _⟩, by repeat (first | exact Drawn0.refl _ | apply Drawn0.step)⟩
    case round =>
      clear H'
      try clear c1
      try clear p2
      try clear c3
      try clear c3b0
      try clear c3b1
      try clear c3b2
      obtain ⟨x5_1, rfl, HA, HK1, ⟨m1, rfl⟩⟩ := hrel
      cases gk with
      | zero => exact absurd HA.out (by simp [missiveref09_SameParams.l0])
      | succ k1 =>
        have H := HA.out
        clear HA
        simp only [missiveref09_SameParams.l0] at H
        by_cases c4 : x5_1 < (l0.length : Int)
        · rw [if_pos c4] at H
          have c4b0 : decide (x5_1 < (l0.length : Int)) = true := decide_eq_true c4
          clear c4
          by_cases c5 : 0 ≤ x5_1
          · rw [if_pos c5] at H
            have c5b0 : decide (0 ≤ x5_1) = true := decide_eq_true c5
            clear c5
            by_cases c6 : x5_1 < (l1.length : Int)
            · rw [if_pos c6] at H
              have c6b0 : decide (x5_1 < (l1.length : Int)) = true := decide_eq_true c6
              clear c6
              by_cases c7 : (!((((rd_T25 l0 x5_1).f0).toList) == (((rd_T25 l1 x5_1).f0).toList)) || (!((((rd_T25 l0 x5_1).f1).toList) == (((rd_T25 l1 x5_1).f1).toList)))) = true
              · rw [if_pos c7] at H
                have c7b0 : (!((((rd_T25 l0 x5_1).f0).toList) == (((rd_T25 l1 x5_1).f0).toList)) || (!((((rd_T25 l0 x5_1).f1).toList) == (((rd_T25 l1 x5_1).f1).toList)))) = true := c7
                clear c7
                obtain rfl := Option.some.inj H
                have p101 : 0 ≤ (x5_1 : Int) := of_decide_eq_true (by first | (with_reducible assumption) | assumption)
                have q101 : x5_1 < (l0.length : Int) := of_decide_eq_true (by first | (with_reducible assumption) | assumption)
                obtain ⟨ad101, e101, hx101_0, hx101_1⟩ := at_T25 HR0.out x5_1 p101 q101
                cases e101
                replace p101 := eq_true p101
                replace q101 := eq_true q101
                have p102 : 0 ≤ (x5_1 : Int) := of_decide_eq_true (by first | (with_reducible assumption) | assumption)
                have q102 : x5_1 < (l1.length : Int) := of_decide_eq_true (by first | (with_reducible assumption) | assumption)
                obtain ⟨ad102, e102, hx102_0, hx102_1⟩ := at_T25 HR1.out x5_1 p102 q102
                cases e102
                replace p102 := eq_true p102
                replace q102 := eq_true q102
                go_wp2
                repeat (go_quiet (fail); try go_wp2)
                go_ret
                exact ⟨by first | rfl | (simp; done) | (simp [*]; done), by repeat (first | exact Drawn0.refl _ | apply Drawn0.step)⟩
              · rw [if_neg c7] at H
                have c7b0 : (!((((rd_T25 l0 x5_1).f0).toList) == (((rd_T25 l1 x5_1).f0).toList)) || (!((((rd_T25 l0 x5_1).f1).toList) == (((rd_T25 l1 x5_1).f1).toList)))) = false := by simpa using c7
                clear c7
                have H' := Aside0.mk H
                clear H
                have p101 : 0 ≤ (x5_1 : Int) := of_decide_eq_true (by first | (with_reducible assumption) | assumption)
                have q101 : x5_1 < (l0.length : Int) := of_decide_eq_true (by first | (with_reducible assumption) | assumption)
                obtain ⟨ad101, e101, hx101_0, hx101_1⟩ := at_T25 HR0.out x5_1 p101 q101
                cases e101
                replace p101 := eq_true p101
                replace q101 := eq_true q101
                have p102 : 0 ≤ (x5_1 : Int) := of_decide_eq_true (by first | (with_reducible assumption) | assumption)
                have q102 : x5_1 < (l1.length : Int) := of_decide_eq_true (by first | (with_reducible assumption) | assumption)
                obtain ⟨ad102, e102, hx102_0, hx102_1⟩ := at_T25 HR1.out x5_1 p102 q102
                cases e102
                replace p102 := eq_true p102
                replace q102 := eq_true q102
                go_wp2
                repeat (go_quiet (fail); try go_wp2)
                go_roundg k1
                case measure => have := HK1.out; omega
                case rel => exact ⟨(wrap64 (x5_1 + 1)), (by first | rfl | (simp; done) | (simp [*]; done)), H', ⟨by have := HK1.out; omega⟩, by repeat (first | exact Drawn0.refl _ | apply Drawn0.step)⟩
            · rw [if_neg c6] at H
              exact absurd H (by simp)
          · rw [if_neg c5] at H
            exact absurd H (by simp)
        · rw [if_neg c4] at H
          have c4b0 : decide (x5_1 < (l0.length : Int)) = false := decide_eq_false c4
          clear c4
          obtain rfl := Option.some.inj H
          go_wp2
          repeat (go_quiet (fail); try go_wp2)
          go_ret
          exact ⟨by first | rfl | (simp; done) | (simp [*]; done), by repeat (first | exact Drawn0.refl _ | apply Drawn0.step)⟩
  · rw [if_neg c3] at H
    have c3b0 : ((l0.length : Int) == (l1.length : Int)) = false := beq_eq_false_iff_ne.mpr c3
    have c3b1 : ((l0.length : Int) != (l1.length : Int)) = true := bne_iff_ne.mpr c3
    have c3b2 : (l0.length == l1.length) = false := by first | simpa using c3 | (simp at c3 ⊢; omega)
    obtain rfl := Option.some.inj H
    go_enter Tryz.func15, Tryz.ntmps15
    go_wp2
    repeat (go_quiet (fail); try go_wp2)
    go_ret
    exact ⟨by first | rfl | (simp; done) | (simp [*]; done), by repeat (first | exact Drawn0.refl _ | apply Drawn0.step)⟩
def missiveref09_Same.l0 : Nat → List (S35) → List (S35) → Int → Option (Bool)
  | 0, _, _, _ => none
  | k + 1, x0, x1, x5 => if x5 < (x0.length : Int) then (if 0 ≤ x5 then (if x5 < (x1.length : Int) then (if (!((((rd_T35 x0 x5).f0).toList) == (((rd_T35 x1 x5).f0).toList)) || (!((((rd_T35 x0 x5).f1).toList) == (((rd_T35 x1 x5).f1).toList)))) = true then (some false) else (missiveref09_Same.l0 k x0 x1 (wrap64 (x5 + 1)))) else (none)) else (none)) else (some true)
def missiveref09_Same.f (k : Nat) (l0 : List (S35)) (l1 : List (S35)) : Option (Bool) := if (l0.length : Int) = (l1.length : Int) then (missiveref09_Same.l0 k l0 l1 0) else (some false)
theorem missiveref09_Same.mono_l : ∀ k, (∀ y0 y1 y2, LeO (missiveref09_Same.l0 k y0 y1 y2) (missiveref09_Same.l0 (k + 1) y0 y1 y2))
  | 0 => fun _ _ _ r h => by simp [missiveref09_Same.l0] at h
  | k + 1 => by
    have ih0 := missiveref09_Same.mono_l k
    · intro y0 y1 y2
      unfold missiveref09_Same.l0
      repeat' first
      | (with_reducible exact ih0 _ _ _)
      | (with_reducible exact LeO.refl _)
      | (with_reducible exact LeO.none _)
      | (with_reducible refine LeO.ite ?_ ?_)
      | (with_reducible refine LeO.bind ?_ (fun _ => ?_))
      | exact ih0 _ _ _
      | exact LeO.none _
      | refine LeO.ite ?_ ?_
      | refine LeO.bind ?_ (fun _ => ?_)
theorem missiveref09_Same.mono : ∀ a0 a1 k, LeO (missiveref09_Same.f k a0 a1) (missiveref09_Same.f (k + 1) a0 a1) := by
  intro a0 a1 k
  have ih0 := missiveref09_Same.mono_l k
  unfold missiveref09_Same.f
  repeat' first
      | (with_reducible exact ih0 _ _ _)
      | (with_reducible exact LeO.refl _)
      | (with_reducible exact LeO.none _)
      | (with_reducible refine LeO.ite ?_ ?_)
      | (with_reducible refine LeO.bind ?_ (fun _ => ?_))
      | exact ih0 _ _ _
      | exact LeO.none _
      | refine LeO.ite ?_ ?_
      | refine LeO.bind ?_ (fun _ => ?_)
set_option maxHeartbeats 8000000 in
set_option maxRecDepth 100000 in
theorem missiveref09_Same.calls (k : Nat) (A0 : Option Addr) (c0 : Nat) (l0 : List (S35)) (A1 : Option Addr) (c1 : Nat) (l1 : List (S35)) (r : Bool) (w : World) (hr0 : Kd.C k35 w A0 l0.length l0) (hc0 : l0.length ≤ c0) (hr1 : Kd.C k35 w A1 l1.length l1) (hc1 : l1.length ≤ c1) (h : missiveref09_Same.f k l0 l1 = some r) :
    Calls Tryz.prog 23 #[.slice A0 l0.length c0, .slice A1 l1.length c1] w fun e w' => e = .returned (.bool r) ∧ Drawn0 w w' := by
  have hu35 := Tryz.underlying35
  have HR0 := Aside0.mk hr0
  have HC0 := Aside0.mk hc0
  clear hr0 hc0
  have HR1 := Aside0.mk hr1
  have HC1 := Aside0.mk hc1
  clear hr1 hc1
  have H : (if (l0.length : Int) = (l1.length : Int) then (missiveref09_Same.l0 k l0 l1 0) else (some false)) = some r := h
  clear h
  by_cases c3 : (l0.length : Int) = (l1.length : Int)
  · rw [if_pos c3] at H
    have c3b0 : ((l0.length : Int) == (l1.length : Int)) = true := beq_iff_eq.mpr c3
    have c3b1 : ((l0.length : Int) != (l1.length : Int)) = false := bne_eq_false_iff_eq.mpr c3
    have c3b2 : (l0.length == l1.length) = true := by first | simpa using c3 | (simp at c3 ⊢; omega)
    clear c3
    have H' := Aside0.mk H
    clear H
    go_enter Tryz.func23, Tryz.ntmps23
    go_wp2
    repeat (go_quiet (fail); try go_wp2)
    go_loopg [5] k (fun kq v5 w' => ∃ (x5_1 : Int), v5 = .int .i64 x5_1 ∧ Aside0 (missiveref09_Same.l0 kq l0 l1 x5_1 = some r) ∧ Aside0 (kq ≤ k) ∧ Drawn0 w w')
    case atStart => exact ⟨(0), (by first | rfl | (simp; done) | (simp [*]; done)), H', ⟨Nat.le_refl _⟩, by repeat (first | exact Drawn0.refl _ | apply Drawn0.step)⟩
    case round =>
      clear H'
      try clear c1
      try clear c2
      try clear p2
      try clear c3
      try clear c3b0
      try clear c3b1
      try clear c3b2
      obtain ⟨x5_1, rfl, HA, HK1, ⟨m1, rfl⟩⟩ := hrel
      cases gk with
      | zero => exact absurd HA.out (by simp [missiveref09_Same.l0])
      | succ k1 =>
        have H := HA.out
        clear HA
        simp only [missiveref09_Same.l0] at H
        by_cases c4 : x5_1 < (l0.length : Int)
        · rw [if_pos c4] at H
          have c4b0 : decide (x5_1 < (l0.length : Int)) = true := decide_eq_true c4
          clear c4
          by_cases c5 : 0 ≤ x5_1
          · rw [if_pos c5] at H
            have c5b0 : decide (0 ≤ x5_1) = true := decide_eq_true c5
            clear c5
            by_cases c6 : x5_1 < (l1.length : Int)
            · rw [if_pos c6] at H
              have c6b0 : decide (x5_1 < (l1.length : Int)) = true := decide_eq_true c6
              clear c6
              by_cases c7 : (!((((rd_T35 l0 x5_1).f0).toList) == (((rd_T35 l1 x5_1).f0).toList)) || (!((((rd_T35 l0 x5_1).f1).toList) == (((rd_T35 l1 x5_1).f1).toList)))) = true
              · rw [if_pos c7] at H
                have c7b0 : (!((((rd_T35 l0 x5_1).f0).toList) == (((rd_T35 l1 x5_1).f0).toList)) || (!((((rd_T35 l0 x5_1).f1).toList) == (((rd_T35 l1 x5_1).f1).toList)))) = true := c7
                clear c7
                obtain rfl := Option.some.inj H
                have p103 : 0 ≤ (x5_1 : Int) := of_decide_eq_true (by first | (with_reducible assumption) | assumption)
                have q103 : x5_1 < (l0.length : Int) := of_decide_eq_true (by first | (with_reducible assumption) | assumption)
                obtain ⟨ad103, e103, hx103_0, hx103_1⟩ := at_T35 HR0.out x5_1 p103 q103
                cases e103
                replace p103 := eq_true p103
                replace q103 := eq_true q103
                have p104 : 0 ≤ (x5_1 : Int) := of_decide_eq_true (by first | (with_reducible assumption) | assumption)
                have q104 : x5_1 < (l1.length : Int) := of_decide_eq_true (by first | (with_reducible assumption) | assumption)
                obtain ⟨ad104, e104, hx104_0, hx104_1⟩ := at_T35 HR1.out x5_1 p104 q104
                cases e104
                replace p104 := eq_true p104
                replace q104 := eq_true q104
                go_wp2
                repeat (go_quiet (fail); try go_wp2)
                go_ret
                exact ⟨by first | rfl | (simp; done) | (simp [*]; done), by repeat (first | exact Drawn0.refl _ | apply Drawn0.step)⟩
              · rw [if_neg c7] at H
                have c7b0 : (!((((rd_T35 l0 x5_1).f0).toList) == (((rd_T35 l1 x5_1).f0).toList)) || (!((((rd_T35 l0 x5_1).f1).toList) == (((rd_T35 l1 x5_1).f1).toList)))) = false := by simpa using c7
                clear c7
                have H' := Aside0.mk H
                clear H
                have p103 : 0 ≤ (x5_1 : Int) := of_decide_eq_true (by first | (with_reducible assumption) | assumption)
                have q103 : x5_1 < (l0.length : Int) := of_decide_eq_true (by first | (with_reducible assumption) | assumption)
                obtain ⟨ad103, e103, hx103_0, hx103_1⟩ := at_T35 HR0.out x5_1 p103 q103
                cases e103
                replace p103 := eq_true p103
                replace q103 := eq_true q103
                have p104 : 0 ≤ (x5_1 : Int) := of_decide_eq_true (by first | (with_reducible assumption) | assumption)
                have q104 : x5_1 < (l1.length : Int) := of_decide_eq_true (by first | (with_reducible assumption) | assumption)
                obtain ⟨ad104, e104, hx104_0, hx104_1⟩ := at_T35 HR1.out x5_1 p104 q104
                cases e104
                replace p104 := eq_true p104
                replace q104 := eq_true q104
                go_wp2
                repeat (go_quiet (fail); try go_wp2)
                go_roundg k1
                case measure => have := HK1.out; omega
                case rel => exact ⟨(wrap64 (x5_1 + 1)), (by first | rfl | (simp; done) | (simp [*]; done)), H', ⟨by have := HK1.out; omega⟩, by repeat (first | exact Drawn0.refl _ | apply Drawn0.step)⟩
            · rw [if_neg c6] at H
              exact absurd H (by simp)
          · rw [if_neg c5] at H
            exact absurd H (by simp)
        · rw [if_neg c4] at H
          have c4b0 : decide (x5_1 < (l0.length : Int)) = false := decide_eq_false c4
          clear c4
          obtain rfl := Option.some.inj H
          go_wp2
          repeat (go_quiet (fail); try go_wp2)
          go_ret
          exact ⟨by first | rfl | (simp; done) | (simp [*]; done), by repeat (first | exact Drawn0.refl _ | apply Drawn0.step)⟩
  · rw [if_neg c3] at H
    have c3b0 : ((l0.length : Int) == (l1.length : Int)) = false := beq_eq_false_iff_ne.mpr c3
    have c3b1 : ((l0.length : Int) != (l1.length : Int)) = true := bne_iff_ne.mpr c3
    have c3b2 : (l0.length == l1.length) = false := by first | simpa using c3 | (simp at c3 ⊢; omega)
    obtain rfl := Option.some.inj H
    go_enter Tryz.func23, Tryz.ntmps23
    go_wp2
    repeat (go_quiet (fail); try go_wp2)
    go_ret
    exact ⟨by first | rfl | (simp; done) | (simp [*]; done), by repeat (first | exact Drawn0.refl _ | apply Drawn0.step)⟩
def missiveref09_Printable.l0 : Nat → ByteArray → Int → Option (Bool)
  | 0, _, _ => none
  | k + 1, x0, x3 => if x3 < (x0.size : Int) then (if 0 ≤ x3 then (if (bt x0 x3) < 33 then (some false) else (if (bt x0 x3) > 126 then (some false) else (missiveref09_Printable.l0 k x0 (wrap64 (x3 + 1))))) else (none)) else (some true)
def missiveref09_Printable.f (k : Nat) (a0 : ByteArray) : Option (Bool) := missiveref09_Printable.l0 k a0 0
theorem missiveref09_Printable.mono_l : ∀ k, (∀ y0 y1, LeO (missiveref09_Printable.l0 k y0 y1) (missiveref09_Printable.l0 (k + 1) y0 y1))
  | 0 => fun _ _ r h => by simp [missiveref09_Printable.l0] at h
  | k + 1 => by
    have ih0 := missiveref09_Printable.mono_l k
    · intro y0 y1
      unfold missiveref09_Printable.l0
      repeat' first
      | (with_reducible exact ih0 _ _)
      | (with_reducible exact LeO.refl _)
      | (with_reducible exact LeO.none _)
      | (with_reducible refine LeO.ite ?_ ?_)
      | (with_reducible refine LeO.bind ?_ (fun _ => ?_))
      | exact ih0 _ _
      | exact LeO.none _
      | refine LeO.ite ?_ ?_
      | refine LeO.bind ?_ (fun _ => ?_)
theorem missiveref09_Printable.mono : ∀ a0 k, LeO (missiveref09_Printable.f k a0) (missiveref09_Printable.f (k + 1) a0) := by
  intro a0 k
  have ih0 := missiveref09_Printable.mono_l k
  unfold missiveref09_Printable.f
  repeat' first
      | (with_reducible exact ih0 _ _)
      | (with_reducible exact LeO.refl _)
      | (with_reducible exact LeO.none _)
      | (with_reducible refine LeO.ite ?_ ?_)
      | (with_reducible refine LeO.bind ?_ (fun _ => ?_))
      | exact ih0 _ _
      | exact LeO.none _
      | refine LeO.ite ?_ ?_
      | refine LeO.bind ?_ (fun _ => ?_)
set_option maxHeartbeats 8000000 in
set_option maxRecDepth 100000 in
theorem missiveref09_Printable.calls (k : Nat) (a0 : ByteArray) (r : Bool) (w : World) (h : missiveref09_Printable.f k a0 = some r) :
    Calls Tryz.prog 47 #[.string a0] w fun e w' => e = .returned (.bool r) ∧ Drawn0 w w' := by
  have H : (missiveref09_Printable.l0 k a0 0) = some r := h
  clear h
  have H' := Aside0.mk H
  clear H
  go_enter Tryz.func47, Tryz.ntmps47
  go_wp2
  go_loopg [3] k (fun kq v3 w' => ∃ (x3_1 : Int), v3 = .int .i64 x3_1 ∧ Aside0 (missiveref09_Printable.l0 kq a0 x3_1 = some r) ∧ Aside0 (kq ≤ k) ∧ Drawn0 w w')
  case atStart => exact ⟨(0), (by first | rfl | (simp; done) | (simp [*]; done)), H', ⟨Nat.le_refl _⟩, by repeat (first | exact Drawn0.refl _ | apply Drawn0.step)⟩
  case round =>
    clear H'
    obtain ⟨x3_1, rfl, HA, HK1, ⟨m1, rfl⟩⟩ := hrel
    cases gk with
    | zero => exact absurd HA.out (by simp [missiveref09_Printable.l0])
    | succ k1 =>
      have H := HA.out
      clear HA
      simp only [missiveref09_Printable.l0] at H
      by_cases c2 : x3_1 < (a0.size : Int)
      · rw [if_pos c2] at H
        have c2b0 : decide (x3_1 < (a0.size : Int)) = true := decide_eq_true c2
        clear c2
        by_cases c3 : 0 ≤ x3_1
        · rw [if_pos c3] at H
          have c3b0 : decide (0 ≤ x3_1) = true := decide_eq_true c3
          clear c3
          by_cases c5 : (bt a0 x3_1) < 33
          · rw [if_pos c5] at H
            have c5b0 : decide ((bt a0 x3_1) < 33) = true := decide_eq_true c5
            clear c5
            obtain rfl := Option.some.inj H
            have p4 : 0 ≤ (x3_1 : Int) := of_decide_eq_true (by first | (with_reducible assumption) | assumption)
            have q4 : x3_1 < (a0.size : Int) := of_decide_eq_true (by first | (with_reducible assumption) | assumption)
            have hx4 := bt_at a0 x3_1
            replace p4 := eq_true p4
            replace q4 := eq_true q4
            go_wp2
            go_ret
            exact ⟨by first | rfl | (simp; done) | (simp [*]; done), by repeat (first | exact Drawn0.refl _ | apply Drawn0.step)⟩
          · rw [if_neg c5] at H
            have c5b0 : decide ((bt a0 x3_1) < 33) = false := decide_eq_false c5
            clear c5
            by_cases c7 : (bt a0 x3_1) > 126
            · rw [if_pos c7] at H
              have c7b0 : decide (126 < (bt a0 x3_1)) = true := decide_eq_true c7
              clear c7
              obtain rfl := Option.some.inj H
              have p4 : 0 ≤ (x3_1 : Int) := of_decide_eq_true (by first | (with_reducible assumption) | assumption)
              have q4 : x3_1 < (a0.size : Int) := of_decide_eq_true (by first | (with_reducible assumption) | assumption)
              have hx4 := bt_at a0 x3_1
              replace p4 := eq_true p4
              replace q4 := eq_true q4
              have p6 : 0 ≤ (x3_1 : Int) := of_decide_eq_true (by first | (with_reducible assumption) | assumption)
              have q6 : x3_1 < (a0.size : Int) := of_decide_eq_true (by first | (with_reducible assumption) | assumption)
              have hx6 := bt_at a0 x3_1
              replace p6 := eq_true p6
              replace q6 := eq_true q6
              go_wp2
              go_ret
              exact ⟨by first | rfl | (simp; done) | (simp [*]; done), by repeat (first | exact Drawn0.refl _ | apply Drawn0.step)⟩
            · rw [if_neg c7] at H
              have c7b0 : decide (126 < (bt a0 x3_1)) = false := decide_eq_false c7
              clear c7
              have H' := Aside0.mk H
              clear H
              have p4 : 0 ≤ (x3_1 : Int) := of_decide_eq_true (by first | (with_reducible assumption) | assumption)
              have q4 : x3_1 < (a0.size : Int) := of_decide_eq_true (by first | (with_reducible assumption) | assumption)
              have hx4 := bt_at a0 x3_1
              replace p4 := eq_true p4
              replace q4 := eq_true q4
              have p6 : 0 ≤ (x3_1 : Int) := of_decide_eq_true (by first | (with_reducible assumption) | assumption)
              have q6 : x3_1 < (a0.size : Int) := of_decide_eq_true (by first | (with_reducible assumption) | assumption)
              have hx6 := bt_at a0 x3_1
              replace p6 := eq_true p6
              replace q6 := eq_true q6
              go_wp2
              go_roundg k1
              case measure => have := HK1.out; omega
              case rel => exact ⟨(wrap64 (x3_1 + 1)), (by first | rfl | (simp; done) | (simp [*]; done)), H', ⟨by have := HK1.out; omega⟩, by repeat (first | exact Drawn0.refl _ | apply Drawn0.step)⟩
        · rw [if_neg c3] at H
          exact absurd H (by simp)
      · rw [if_neg c2] at H
        have c2b0 : decide (x3_1 < (a0.size : Int)) = false := decide_eq_false c2
        clear c2
        obtain rfl := Option.some.inj H
        go_wp2
        go_ret
        exact ⟨by first | rfl | (simp; done) | (simp [*]; done), by repeat (first | exact Drawn0.refl _ | apply Drawn0.step)⟩
end Go.Proofs.YtieompfmhnpnaaaGreat.H
namespace Go.Proofs.YtieompfmhnpnaaaGreat.H
open Go.RowKit Go.Proofs.YtieompfmhnpnaaaGreatW.PrintWords Go.Proofs.YtieompfmhnpnaaaGreatW.PrintLast Go.Proofs.YtieompfmhnpnaaaGreatW.PrintMore
attribute [local go_sem] max2_int min2_int max_two min_two max_three min_three max_four min_four
set_option linter.unusedVariables false
set_option linter.unusedSimpArgs false
mutual
def missiveref09_has.l0 : Nat → ByteArray → ByteArray → Int → Option (Bool)
  | 0, _, _, _ => none
  | k + 1, x0, x1, x5 => if x5 < (x0.size : Int) then (missiveref09_has.l1 k x0 x1 x5 0) else (some false)
def missiveref09_has.l1 : Nat → ByteArray → ByteArray → Int → Int → Option (Bool)
  | 0, _, _, _, _ => none
  | k + 1, x0, x1, x5, x6 => if x6 < (x1.size : Int) then (if 0 ≤ x5 then (if x5 < (x0.size : Int) then (if 0 ≤ x6 then (if (bt x0 x5) = (bt x1 x6) then (some true) else (missiveref09_has.l1 k x0 x1 x5 (wrap64 (x6 + 1)))) else (none)) else (none)) else (none)) else (missiveref09_has.l0 k x0 x1 (wrap64 (x5 + 1)))
end
def missiveref09_has.f (k : Nat) (a0 : ByteArray) (a1 : ByteArray) : Option (Bool) := missiveref09_has.l0 k a0 a1 0
theorem missiveref09_has.mono_l : ∀ k, (∀ y0 y1 y2, LeO (missiveref09_has.l0 k y0 y1 y2) (missiveref09_has.l0 (k + 1) y0 y1 y2)) ∧ (∀ y0 y1 y2 y3, LeO (missiveref09_has.l1 k y0 y1 y2 y3) (missiveref09_has.l1 (k + 1) y0 y1 y2 y3))
  | 0 => ⟨fun _ _ _ r h => by simp [missiveref09_has.l0] at h, fun _ _ _ _ r h => by simp [missiveref09_has.l1] at h⟩
  | k + 1 => by
    obtain ⟨ih0, ih1⟩ := missiveref09_has.mono_l k
    refine ⟨?_, ?_⟩
    · intro y0 y1 y2
      unfold missiveref09_has.l0
      repeat' first
      | (with_reducible exact ih0 _ _ _)
      | (with_reducible exact ih1 _ _ _ _)
      | (with_reducible exact LeO.refl _)
      | (with_reducible exact LeO.none _)
      | (with_reducible refine LeO.ite ?_ ?_)
      | (with_reducible refine LeO.bind ?_ (fun _ => ?_))
      | exact ih0 _ _ _
      | exact ih1 _ _ _ _
      | exact LeO.none _
      | refine LeO.ite ?_ ?_
      | refine LeO.bind ?_ (fun _ => ?_)
    · intro y0 y1 y2 y3
      unfold missiveref09_has.l1
      repeat' first
      | (with_reducible exact ih0 _ _ _)
      | (with_reducible exact ih1 _ _ _ _)
      | (with_reducible exact LeO.refl _)
      | (with_reducible exact LeO.none _)
      | (with_reducible refine LeO.ite ?_ ?_)
      | (with_reducible refine LeO.bind ?_ (fun _ => ?_))
      | exact ih0 _ _ _
      | exact ih1 _ _ _ _
      | exact LeO.none _
      | refine LeO.ite ?_ ?_
      | refine LeO.bind ?_ (fun _ => ?_)
theorem missiveref09_has.mono : ∀ a0 a1 k, LeO (missiveref09_has.f k a0 a1) (missiveref09_has.f (k + 1) a0 a1) := by
  intro a0 a1 k
  obtain ⟨ih0, ih1⟩ := missiveref09_has.mono_l k
  unfold missiveref09_has.f
  repeat' first
      | (with_reducible exact ih0 _ _ _)
      | (with_reducible exact ih1 _ _ _ _)
      | (with_reducible exact LeO.refl _)
      | (with_reducible exact LeO.none _)
      | (with_reducible refine LeO.ite ?_ ?_)
      | (with_reducible refine LeO.bind ?_ (fun _ => ?_))
      | exact ih0 _ _ _
      | exact ih1 _ _ _ _
      | exact LeO.none _
      | refine LeO.ite ?_ ?_
      | refine LeO.bind ?_ (fun _ => ?_)
set_option maxHeartbeats 8000000 in
set_option maxRecDepth 100000 in
theorem missiveref09_has.calls (k : Nat) (a0 : ByteArray) (a1 : ByteArray) (r : Bool) (w : World) (h : missiveref09_has.f k a0 a1 = some r) :
    Calls Tryz.prog 48 #[.string a0, .string a1] w fun e w' => e = .returned (.bool r) ∧ Drawn0 w w' := by
  have H : (missiveref09_has.l0 k a0 a1 0) = some r := h
  clear h
  have H' := Aside0.mk H
  clear H
  go_enter Tryz.func48, Tryz.ntmps48
  go_wp2
  repeat (go_quiet (fail); try go_wp2)
  go_loopg [5] k (fun kq v5 w' => ∃ (x5_1 : Int), v5 = .int .i64 x5_1 ∧ Aside0 (missiveref09_has.l0 kq a0 a1 x5_1 = some r) ∧ Aside0 (kq ≤ k) ∧ Drawn0 w w')
  case atStart => exact ⟨(0), (by first | rfl | (simp; done) | (simp [*]; done)), H', ⟨Nat.le_refl _⟩, by repeat (first | exact Drawn0.refl _ | apply Drawn0.step)⟩
  case round =>
    clear H'
    try clear p2
    obtain ⟨x5_1, rfl, HA, HK1, ⟨m1, rfl⟩⟩ := hrel
    cases gk with
    | zero => exact absurd HA.out (by simp [missiveref09_has.l0])
    | succ k1 =>
      have H := HA.out
      clear HA
      simp only [missiveref09_has.l0] at H
      by_cases c3 : x5_1 < (a0.size : Int)
      · rw [if_pos c3] at H
        have c3b0 : decide (x5_1 < (a0.size : Int)) = true := decide_eq_true c3
        clear c3
        have H' := Aside0.mk H
        clear H
        go_wp2
        repeat (go_quiet (fail); try go_wp2)
        go_loopg [6] k1 (fun kq v6 w' => ∃ (x6_2 : Int), v6 = .int .i64 x6_2 ∧ Aside0 (missiveref09_has.l1 kq a0 a1 x5_1 x6_2 = some r) ∧ Aside0 (kq ≤ k1) ∧ Drawn0 w w')
        case atStart => exact ⟨(0), (by first | rfl | (simp; done) | (simp [*]; done)), H', ⟨Nat.le_refl _⟩, by repeat (first | exact Drawn0.refl _ | apply Drawn0.step)⟩
        case round =>
          clear H'
          try clear p2
          try clear c3
          try clear c3b0
          try clear p2
          obtain ⟨x6_2, rfl, HA, HK2, ⟨m2, rfl⟩⟩ := hrel
          cases gk with
          | zero => exact absurd HA.out (by simp [missiveref09_has.l1])
          | succ k2 =>
            have H := HA.out
            clear HA
            simp only [missiveref09_has.l1] at H
            by_cases c4 : x6_2 < (a1.size : Int)
            · rw [if_pos c4] at H
              have c4b0 : decide (x6_2 < (a1.size : Int)) = true := decide_eq_true c4
              clear c4
              by_cases c5 : 0 ≤ x5_1
              · rw [if_pos c5] at H
                have c5b0 : decide (0 ≤ x5_1) = true := decide_eq_true c5
                clear c5
                by_cases c6 : x5_1 < (a0.size : Int)
                · rw [if_pos c6] at H
                  have c6b0 : decide (x5_1 < (a0.size : Int)) = true := decide_eq_true c6
                  clear c6
                  by_cases c8 : 0 ≤ x6_2
                  · rw [if_pos c8] at H
                    have c8b0 : decide (0 ≤ x6_2) = true := decide_eq_true c8
                    clear c8
                    by_cases c10 : (bt a0 x5_1) = (bt a1 x6_2)
                    · rw [if_pos c10] at H
                      have c10b0 : ((bt a0 x5_1) == (bt a1 x6_2)) = true := beq_iff_eq.mpr c10
                      have c10b1 : ((bt a0 x5_1) != (bt a1 x6_2)) = false := bne_eq_false_iff_eq.mpr c10
                      clear c10
                      obtain rfl := Option.some.inj H
                      have p7 : 0 ≤ (x5_1 : Int) := of_decide_eq_true (by first | (with_reducible assumption) | assumption)
                      have q7 : x5_1 < (a0.size : Int) := of_decide_eq_true (by first | (with_reducible assumption) | assumption)
                      have hx7 := bt_at a0 x5_1
                      replace p7 := eq_true p7
                      replace q7 := eq_true q7
                      have p9 : 0 ≤ (x6_2 : Int) := of_decide_eq_true (by first | (with_reducible assumption) | assumption)
                      have q9 : x6_2 < (a1.size : Int) := of_decide_eq_true (by first | (with_reducible assumption) | assumption)
                      have hx9 := bt_at a1 x6_2
                      replace p9 := eq_true p9
                      replace q9 := eq_true q9
                      go_wp2
                      repeat (go_quiet (fail); try go_wp2)
                      go_ret
                      exact ⟨by first | rfl | (simp; done) | (simp [*]; done), by repeat (first | exact Drawn0.refl _ | apply Drawn0.step)⟩
                    · rw [if_neg c10] at H
                      have c10b0 : ((bt a0 x5_1) == (bt a1 x6_2)) = false := beq_eq_false_iff_ne.mpr c10
                      have c10b1 : ((bt a0 x5_1) != (bt a1 x6_2)) = true := bne_iff_ne.mpr c10
                      have H' := Aside0.mk H
                      clear H
                      have p7 : 0 ≤ (x5_1 : Int) := of_decide_eq_true (by first | (with_reducible assumption) | assumption)
                      have q7 : x5_1 < (a0.size : Int) := of_decide_eq_true (by first | (with_reducible assumption) | assumption)
                      have hx7 := bt_at a0 x5_1
                      replace p7 := eq_true p7
                      replace q7 := eq_true q7
                      have p9 : 0 ≤ (x6_2 : Int) := of_decide_eq_true (by first | (with_reducible assumption) | assumption)
                      have q9 : x6_2 < (a1.size : Int) := of_decide_eq_true (by first | (with_reducible assumption) | assumption)
                      have hx9 := bt_at a1 x6_2
                      replace p9 := eq_true p9
                      replace q9 := eq_true q9
                      go_wp2
                      repeat (go_quiet (fail); try go_wp2)
                      go_roundg k2
                      case measure => have := HK1.out; have := HK2.out; omega
                      case rel => exact ⟨(wrap64 (x6_2 + 1)), (by first | rfl | (simp; done) | (simp [*]; done)), H', ⟨by have := HK1.out; have := HK2.out; omega⟩, by repeat (first | exact Drawn0.refl _ | apply Drawn0.step)⟩
                  · rw [if_neg c8] at H
                    exact absurd H (by simp)
                · rw [if_neg c6] at H
                  exact absurd H (by simp)
              · rw [if_neg c5] at H
                exact absurd H (by simp)
            · rw [if_neg c4] at H
              have c4b0 : decide (x6_2 < (a1.size : Int)) = false := decide_eq_false c4
              clear c4
              have H' := Aside0.mk H
              clear H
              go_wp2
              repeat (go_quiet (fail); try go_wp2)
              go_roundg k2
              case measure => have := HK1.out; have := HK2.out; omega
              case rel => exact ⟨(wrap64 (x5_1 + 1)), (by first | rfl | (simp; done) | (simp [*]; done)), H', ⟨by have := HK1.out; have := HK2.out; omega⟩, by repeat (first | exact Drawn0.refl _ | apply Drawn0.step)⟩
      · rw [if_neg c3] at H
        have c3b0 : decide (x5_1 < (a0.size : Int)) = false := decide_eq_false c3
        clear c3
        obtain rfl := Option.some.inj H
        go_wp2
        repeat (go_quiet (fail); try go_wp2)
        go_ret
        exact ⟨by first | rfl | (simp; done) | (simp [*]; done), by repeat (first | exact Drawn0.refl _ | apply Drawn0.step)⟩
def missiveref09_Token.f (k : Nat) (a0 : ByteArray) : Option (Bool) := if a0.toList = ([] : List UInt8) then (some false) else ((missiveref09_Printable.f k a0).bind fun t149 => (if t149 = true then ((missiveref09_has.f k a0 (⟨#[40, 41, 60, 62, 64, 44, 59, 58, 92, 34, 47, 91, 93, 63, 61]⟩ : ByteArray)).bind fun t150 => (some (!t150))) else (some false)))
theorem missiveref09_Token.mono : ∀ a0 k, LeO (missiveref09_Token.f k a0) (missiveref09_Token.f (k + 1) a0) := by
  intro a0 k
  unfold missiveref09_Token.f
  repeat' first
      | (with_reducible exact missiveref09_Printable.mono _ _)
      | (with_reducible exact missiveref09_has.mono _ _ _)
      | (with_reducible exact LeO.refl _)
      | (with_reducible exact LeO.none _)
      | (with_reducible refine LeO.ite ?_ ?_)
      | (with_reducible refine LeO.bind ?_ (fun _ => ?_))
      | exact missiveref09_Printable.mono _ _
      | exact missiveref09_has.mono _ _ _
      | exact LeO.none _
      | refine LeO.ite ?_ ?_
      | refine LeO.bind ?_ (fun _ => ?_)
end Go.Proofs.YtieompfmhnpnaaaGreat.H
namespace Go.Proofs.YtieompfmhnpnaaaGreat.H
open Go.RowKit Go.Proofs.YtieompfmhnpnaaaGreatW.PrintWords Go.Proofs.YtieompfmhnpnaaaGreatW.PrintLast Go.Proofs.YtieompfmhnpnaaaGreatW.PrintMore
attribute [local go_sem] max2_int min2_int max_two min_two max_three min_three max_four min_four
set_option linter.unusedVariables false
set_option linter.unusedSimpArgs false
def missivelaw09_few.l0 : Nat → List (S35) → Int → Int → Option (Bool)
  | 0, _, _, _ => none
  | k + 1, x0, x3, x4 => if x4 < (x0.length : Int) then (if 0 ≤ x4 then (if (((rd_T35 x0 x4).f0).size : Int) > 6000 then (some false) else (if (((rd_T35 x0 x4).f1).size : Int) > 6000 then (some false) else (missivelaw09_few.l0 k x0 (wrap64 ((wrap64 (x3 + (((rd_T35 x0 x4).f0).size : Int))) + (((rd_T35 x0 x4).f1).size : Int))) (wrap64 (x4 + 1))))) else (none)) else (if (x0.length : Int) ≤ 420 then (some (decide (x3 ≤ 6000))) else (some false))
def missivelaw09_few.f (k : Nat) (l0 : List (S35)) : Option (Bool) := missivelaw09_few.l0 k l0 0 0
theorem missivelaw09_few.mono_l : ∀ k, (∀ y0 y1 y2, LeO (missivelaw09_few.l0 k y0 y1 y2) (missivelaw09_few.l0 (k + 1) y0 y1 y2))
  | 0 => fun _ _ _ r h => by simp [missivelaw09_few.l0] at h
  | k + 1 => by
    have ih0 := missivelaw09_few.mono_l k
    · intro y0 y1 y2
      unfold missivelaw09_few.l0
      repeat' first
      | (with_reducible exact ih0 _ _ _)
      | (with_reducible exact LeO.refl _)
      | (with_reducible exact LeO.none _)
      | (with_reducible refine LeO.ite ?_ ?_)
      | (with_reducible refine LeO.bind ?_ (fun _ => ?_))
      | exact ih0 _ _ _
      | exact LeO.none _
      | refine LeO.ite ?_ ?_
      | refine LeO.bind ?_ (fun _ => ?_)
theorem missivelaw09_few.mono : ∀ a0 k, LeO (missivelaw09_few.f k a0) (missivelaw09_few.f (k + 1) a0) := by
  intro a0 k
  have ih0 := missivelaw09_few.mono_l k
  unfold missivelaw09_few.f
  repeat' first
      | (with_reducible exact ih0 _ _ _)
      | (with_reducible exact LeO.refl _)
      | (with_reducible exact LeO.none _)
      | (with_reducible refine LeO.ite ?_ ?_)
      | (with_reducible refine LeO.bind ?_ (fun _ => ?_))
      | exact ih0 _ _ _
      | exact LeO.none _
      | refine LeO.ite ?_ ?_
      | refine LeO.bind ?_ (fun _ => ?_)
set_option maxHeartbeats 8000000 in
set_option maxRecDepth 100000 in
theorem missivelaw09_few.calls (k : Nat) (A0 : Option Addr) (c0 : Nat) (l0 : List (S35)) (r : Bool) (w : World) (hr0 : Kd.C k35 w A0 l0.length l0) (hc0 : l0.length ≤ c0) (h : missivelaw09_few.f k l0 = some r) :
    Calls Tryz.prog 18 #[.slice A0 l0.length c0] w fun e w' => e = .returned (.bool r) ∧ Drawn0 w w' := by
  have HR0 := Aside0.mk hr0
  have HC0 := Aside0.mk hc0
  clear hr0 hc0
  have H : (missivelaw09_few.l0 k l0 0 0) = some r := h
  clear h
  have H' := Aside0.mk H
  clear H
  go_enter Tryz.func18, Tryz.ntmps18
  go_wp2
  repeat (go_quiet (fail); try go_wp2)
  go_loopg [3, 4] k (fun kq v3 v4 w' => ∃ (x3_1 : Int) (x4_1 : Int), v3 = .int .i64 x3_1 ∧ v4 = .int .i64 x4_1 ∧ Aside0 (missivelaw09_few.l0 kq l0 x3_1 x4_1 = some r) ∧ Aside0 (kq ≤ k) ∧ Drawn0 w w')
  case atStart => exact ⟨(0), (0), (by first | rfl | (simp; done) | (simp [*]; done)), (by first | rfl | (simp; done) | (simp [*]; done)), H', ⟨Nat.le_refl _⟩, by repeat (first | exact Drawn0.refl _ | apply Drawn0.step)⟩
  case round =>
    clear H'
    try clear c1
    obtain ⟨x3_1, x4_1, rfl, rfl, HA, HK1, ⟨m1, rfl⟩⟩ := hrel
    cases gk with
    | zero => exact absurd HA.out (by simp [missivelaw09_few.l0])
    | succ k1 =>
      have H := HA.out
      clear HA
      simp only [missivelaw09_few.l0] at H
      by_cases c2 : x4_1 < (l0.length : Int)
      · rw [if_pos c2] at H
        have c2b0 : decide (x4_1 < (l0.length : Int)) = true := decide_eq_true c2
        clear c2
        by_cases c3 : 0 ≤ x4_1
        · rw [if_pos c3] at H
          have c3b0 : decide (0 ≤ x4_1) = true := decide_eq_true c3
          clear c3
          by_cases c4 : (((rd_T35 l0 x4_1).f0).size : Int) > 6000
          · rw [if_pos c4] at H
            have c4b0 : decide (6000 < (((rd_T35 l0 x4_1).f0).size : Int)) = true := decide_eq_true c4
            have c4b1 : decide (6000 < ((rd_T35 l0 x4_1).f0).size) = true := decide_eq_true (by omega)
            clear c4
            obtain rfl := Option.some.inj H
            have p207 : 0 ≤ (x4_1 : Int) := of_decide_eq_true (by first | (with_reducible assumption) | assumption)
            have q207 : x4_1 < (l0.length : Int) := of_decide_eq_true (by first | (with_reducible assumption) | assumption)
            obtain ⟨ad207, e207, hx207_0, hx207_1⟩ := at_T35 HR0.out x4_1 p207 q207
            cases e207
            replace p207 := eq_true p207
            replace q207 := eq_true q207
            go_wp2
            repeat (go_quiet (fail); try go_wp2)
            go_ret
            exact ⟨by first | rfl | (simp; done) | (simp [*]; done), by repeat (first | exact Drawn0.refl _ | apply Drawn0.step)⟩
          · rw [if_neg c4] at H
            have c4b0 : decide (6000 < (((rd_T35 l0 x4_1).f0).size : Int)) = false := decide_eq_false c4
            have c4b1 : decide (6000 < ((rd_T35 l0 x4_1).f0).size) = false := decide_eq_false (by omega)
            clear c4
            by_cases c5 : (((rd_T35 l0 x4_1).f1).size : Int) > 6000
            · rw [if_pos c5] at H
              have c5b0 : decide (6000 < (((rd_T35 l0 x4_1).f1).size : Int)) = true := decide_eq_true c5
              have c5b1 : decide (6000 < ((rd_T35 l0 x4_1).f1).size) = true := decide_eq_true (by omega)
              clear c5
              obtain rfl := Option.some.inj H
              have p207 : 0 ≤ (x4_1 : Int) := of_decide_eq_true (by first | (with_reducible assumption) | assumption)
              have q207 : x4_1 < (l0.length : Int) := of_decide_eq_true (by first | (with_reducible assumption) | assumption)
              obtain ⟨ad207, e207, hx207_0, hx207_1⟩ := at_T35 HR0.out x4_1 p207 q207
              cases e207
              replace p207 := eq_true p207
              replace q207 := eq_true q207
              have p208 : 0 ≤ (x4_1 : Int) := of_decide_eq_true (by first | (with_reducible assumption) | assumption)
              have q208 : x4_1 < (l0.length : Int) := of_decide_eq_true (by first | (with_reducible assumption) | assumption)
              obtain ⟨ad208, e208, hx208_0, hx208_1⟩ := at_T35 HR0.out x4_1 p208 q208
              obtain rfl : ad207 = ad208 := (by injection e208)
              replace p208 := eq_true p208
              replace q208 := eq_true q208
              go_wp2
              repeat (go_quiet (fail); try go_wp2)
              go_ret
              exact ⟨by first | rfl | (simp; done) | (simp [*]; done), by repeat (first | exact Drawn0.refl _ | apply Drawn0.step)⟩
            · rw [if_neg c5] at H
              have c5b0 : decide (6000 < (((rd_T35 l0 x4_1).f1).size : Int)) = false := decide_eq_false c5
              have c5b1 : decide (6000 < ((rd_T35 l0 x4_1).f1).size) = false := decide_eq_false (by omega)
              clear c5
              have H' := Aside0.mk H
              clear H
              have p207 : 0 ≤ (x4_1 : Int) := of_decide_eq_true (by first | (with_reducible assumption) | assumption)
              have q207 : x4_1 < (l0.length : Int) := of_decide_eq_true (by first | (with_reducible assumption) | assumption)
              obtain ⟨ad207, e207, hx207_0, hx207_1⟩ := at_T35 HR0.out x4_1 p207 q207
              cases e207
              replace p207 := eq_true p207
              replace q207 := eq_true q207
              have p208 : 0 ≤ (x4_1 : Int) := of_decide_eq_true (by first | (with_reducible assumption) | assumption)
              have q208 : x4_1 < (l0.length : Int) := of_decide_eq_true (by first | (with_reducible assumption) | assumption)
              obtain ⟨ad208, e208, hx208_0, hx208_1⟩ := at_T35 HR0.out x4_1 p208 q208
              obtain rfl : ad207 = ad208 := (by injection e208)
              replace p208 := eq_true p208
              replace q208 := eq_true q208
              have p209 : 0 ≤ (x4_1 : Int) := of_decide_eq_true (by first | (with_reducible assumption) | assumption)
              have q209 : x4_1 < (l0.length : Int) := of_decide_eq_true (by first | (with_reducible assumption) | assumption)
              obtain ⟨ad209, e209, hx209_0, hx209_1⟩ := at_T35 HR0.out x4_1 p209 q209
              obtain rfl : ad207 = ad209 := (by injection e209)
              replace p209 := eq_true p209
              replace q209 := eq_true q209
              have p210 : 0 ≤ (x4_1 : Int) := of_decide_eq_true (by first | (with_reducible assumption) | assumption)
              have q210 : x4_1 < (l0.length : Int) := of_decide_eq_true (by first | (with_reducible assumption) | assumption)
              obtain ⟨ad210, e210, hx210_0, hx210_1⟩ := at_T35 HR0.out x4_1 p210 q210
              obtain rfl : ad207 = ad210 := (by injection e210)
              replace p210 := eq_true p210
              replace q210 := eq_true q210
              go_wp2
              repeat (go_quiet (fail); try go_wp2)
              go_roundg k1
              case measure => have := HK1.out; omega
              case rel => exact ⟨(wrap64 ((wrap64 (x3_1 + (((rd_T35 l0 x4_1).f0).size : Int))) + (((rd_T35 l0 x4_1).f1).size : Int))), (wrap64 (x4_1 + 1)), (by first | rfl | (simp; done) | (simp [*]; done)), (by first | rfl | (simp; done) | (simp [*]; done)), H', ⟨by have := HK1.out; omega⟩, by repeat (first | exact Drawn0.refl _ | apply Drawn0.step)⟩
        · rw [if_neg c3] at H
          exact absurd H (by simp)
      · rw [if_neg c2] at H
        have c2b0 : decide (x4_1 < (l0.length : Int)) = false := decide_eq_false c2
        clear c2
        by_cases c6 : (l0.length : Int) ≤ 420
        · rw [if_pos c6] at H
          have c6b0 : decide ((l0.length : Int) ≤ 420) = true := decide_eq_true c6
          have c6b1 : decide (l0.length ≤ 420) = true := decide_eq_true (by omega)
          clear c6
          obtain rfl := Option.some.inj H
          go_wp2
          repeat (go_quiet (fail); try go_wp2)
          go_ret
          exact ⟨by first | rfl | (simp; done) | (simp [*]; done), by repeat (first | exact Drawn0.refl _ | apply Drawn0.step)⟩
        · rw [if_neg c6] at H
          have c6b0 : decide ((l0.length : Int) ≤ 420) = false := decide_eq_false c6
          have c6b1 : decide (l0.length ≤ 420) = false := decide_eq_false (by omega)
          clear c6
          obtain rfl := Option.some.inj H
          go_wp2
          repeat (go_quiet (fail); try go_wp2)
          go_ret
          exact ⟨by first | rfl | (simp; done) | (simp [*]; done), by repeat (first | exact Drawn0.refl _ | apply Drawn0.step)⟩
def missiveref09_Named.f (k : Nat) (a0 : ByteArray) : Option (Bool) := if a0.toList = ([] : List UInt8) then (some false) else (if (a0.size : Int) ≤ 200 then ((missiveref09_Printable.f k a0).bind fun t211 => (if t211 = true then ((missiveref09_has.f k a0 (⟨#[58]⟩ : ByteArray)).bind fun t212 => (some (!t212))) else (some false))) else (some false))
theorem missiveref09_Named.mono : ∀ a0 k, LeO (missiveref09_Named.f k a0) (missiveref09_Named.f (k + 1) a0) := by
  intro a0 k
  unfold missiveref09_Named.f
  repeat' first
      | (with_reducible exact missiveref09_Printable.mono _ _)
      | (with_reducible exact missiveref09_has.mono _ _ _)
      | (with_reducible exact LeO.refl _)
      | (with_reducible exact LeO.none _)
      | (with_reducible refine LeO.ite ?_ ?_)
      | (with_reducible refine LeO.bind ?_ (fun _ => ?_))
      | exact missiveref09_Printable.mono _ _
      | exact missiveref09_has.mono _ _ _
      | exact LeO.none _
      | refine LeO.ite ?_ ?_
      | refine LeO.bind ?_ (fun _ => ?_)
set_option maxHeartbeats 8000000 in
set_option maxRecDepth 100000 in
theorem missiveref09_Named.calls (k : Nat) (a0 : ByteArray) (r : Bool) (w : World) (h : missiveref09_Named.f k a0 = some r) :
    Calls Tryz.prog 19 #[.string a0] w fun e w' => e = .returned (.bool r) ∧ Drawn0 w w' := by
  have H : (if a0.toList = ([] : List UInt8) then (some false) else (if (a0.size : Int) ≤ 200 then ((missiveref09_Printable.f k a0).bind fun t211 => (if t211 = true then ((missiveref09_has.f k a0 (⟨#[58]⟩ : ByteArray)).bind fun t212 => (some (!t212))) else (some false))) else (some false))) = some r := h
  clear h
  by_cases c2 : a0.toList = ([] : List UInt8)
  · rw [if_pos c2] at H
    have c2b0 : (a0.toList == ([] : List UInt8)) = true := beq_iff_eq.mpr c2
    have c2b1 : (a0.toList != ([] : List UInt8)) = false := bne_eq_false_iff_eq.mpr c2
    clear c2
    obtain rfl := Option.some.inj H
    go_enter Tryz.func19, Tryz.ntmps19
    go_wp2
    go_ret
    exact ⟨by first | rfl | (simp; done) | (simp [*]; done), by repeat (first | exact Drawn0.refl _ | apply Drawn0.step)⟩
  · rw [if_neg c2] at H
    have c2b0 : (a0.toList == ([] : List UInt8)) = false := beq_eq_false_iff_ne.mpr c2
    have c2b1 : (a0.toList != ([] : List UInt8)) = true := bne_iff_ne.mpr c2
    by_cases c3 : (a0.size : Int) ≤ 200
    · rw [if_pos c3] at H
      have c3b0 : decide ((a0.size : Int) ≤ 200) = true := decide_eq_true c3
      have c3b1 : decide (a0.size ≤ 200) = true := decide_eq_true (by omega)
      clear c3
      replace H := Option.bind_eq_some_iff.mp H
      obtain ⟨t211, A40, H⟩ := H
      replace H : (if t211 = true then ((missiveref09_has.f k a0 (⟨#[58]⟩ : ByteArray)).bind fun t212 => (some (!t212))) else (some false)) = some r := H
      have A4 := Aside0.mk A40
      clear A40
      by_cases c5 : t211 = true
      · subst c5
        have H1 : ((missiveref09_has.f k a0 (⟨#[58]⟩ : ByteArray)).bind fun t212 => (some (!t212))) = some r := by rw [if_pos rfl] at H; exact H
        clear H
        have H := H1
        clear H1
        replace H := Option.bind_eq_some_iff.mp H
        obtain ⟨t212, A60, H⟩ := H
        replace H : (some (!t212)) = some r := H
        have A6 := Aside0.mk A60
        clear A60
        obtain rfl := Option.some.inj H
        go_enter Tryz.func19, Tryz.ntmps19
        go_wp2_with (first | (go_at_call 47; (with_reducible refine (missiveref09_Printable.calls k a0 true _ A4.out).mono ?_); rintro e w' ⟨rfl, ⟨nd, rfl⟩⟩) | (go_at_call 48; (with_reducible refine (missiveref09_has.calls k a0 (⟨#[58]⟩ : ByteArray) t212 _ A6.out).mono ?_); rintro e w' ⟨rfl, ⟨nd, rfl⟩⟩))
        go_ret
        exact ⟨by first | rfl | (simp; done) | (simp [*]; done), by repeat (first | exact Drawn0.refl _ | apply Drawn0.step)⟩
      · replace c5 := Bool.eq_false_iff.mpr c5
        subst c5
        have H1 : (some false) = some r := by rw [if_neg (show ¬ (false = true) by decide)] at H; exact H
        clear H
        have H := H1
        clear H1
        obtain rfl := Option.some.inj H
        go_enter Tryz.func19, Tryz.ntmps19
        go_wp2_with (first | (go_at_call 47; (with_reducible refine (missiveref09_Printable.calls k a0 false _ A4.out).mono ?_); rintro e w' ⟨rfl, ⟨nd, rfl⟩⟩))
        go_ret
        exact ⟨by first | rfl | (simp; done) | (simp [*]; done), by repeat (first | exact Drawn0.refl _ | apply Drawn0.step)⟩
    · rw [if_neg c3] at H
      have c3b0 : decide ((a0.size : Int) ≤ 200) = false := decide_eq_false c3
      have c3b1 : decide (a0.size ≤ 200) = false := decide_eq_false (by omega)
      clear c3
      obtain rfl := Option.some.inj H
      go_enter Tryz.func19, Tryz.ntmps19
      go_wp2
      go_ret
      exact ⟨by first | rfl | (simp; done) | (simp [*]; done), by repeat (first | exact Drawn0.refl _ | apply Drawn0.step)⟩
def text_white.f (a0 : Int) : Option (Bool) := if a0 = 9 then (some true) else (if a0 = 10 then (some true) else (if a0 = 13 then (some true) else (some (a0 == 32))))
set_option maxHeartbeats 8000000 in
set_option maxRecDepth 100000 in
theorem text_white.calls (a0 : Int) (r : Bool) (w : World) (h : text_white.f a0 = some r) :
    Calls Tryz.prog 62 #[.int .u8 a0] w fun e w' => e = .returned (.bool r) ∧ Drawn0 w w' := by
  have H : (if a0 = 9 then (some true) else (if a0 = 10 then (some true) else (if a0 = 13 then (some true) else (some (a0 == 32))))) = some r := h
  clear h
  by_cases c2 : a0 = 9
  · rw [if_pos c2] at H
    have c2b0 : (a0 == 9) = true := beq_iff_eq.mpr c2
    have c2b1 : (a0 != 9) = false := bne_eq_false_iff_eq.mpr c2
    clear c2
    obtain rfl := Option.some.inj H
    go_enter Tryz.func62, Tryz.ntmps62
    go_wp2
    go_ret
    exact ⟨by first | rfl | (simp; done) | (simp [*]; done), by repeat (first | exact Drawn0.refl _ | apply Drawn0.step)⟩
  · rw [if_neg c2] at H
    have c2b0 : (a0 == 9) = false := beq_eq_false_iff_ne.mpr c2
    have c2b1 : (a0 != 9) = true := bne_iff_ne.mpr c2
    by_cases c3 : a0 = 10
    · rw [if_pos c3] at H
      have c3b0 : (a0 == 10) = true := beq_iff_eq.mpr c3
      have c3b1 : (a0 != 10) = false := bne_eq_false_iff_eq.mpr c3
      clear c3
      obtain rfl := Option.some.inj H
      go_enter Tryz.func62, Tryz.ntmps62
      go_wp2
      go_ret
      exact ⟨by first | rfl | (simp; done) | (simp [*]; done), by repeat (first | exact Drawn0.refl _ | apply Drawn0.step)⟩
    · rw [if_neg c3] at H
      have c3b0 : (a0 == 10) = false := beq_eq_false_iff_ne.mpr c3
      have c3b1 : (a0 != 10) = true := bne_iff_ne.mpr c3
      by_cases c4 : a0 = 13
      · rw [if_pos c4] at H
        have c4b0 : (a0 == 13) = true := beq_iff_eq.mpr c4
        have c4b1 : (a0 != 13) = false := bne_eq_false_iff_eq.mpr c4
        clear c4
        obtain rfl := Option.some.inj H
        go_enter Tryz.func62, Tryz.ntmps62
        go_wp2
        go_ret
        exact ⟨by first | rfl | (simp; done) | (simp [*]; done), by repeat (first | exact Drawn0.refl _ | apply Drawn0.step)⟩
      · rw [if_neg c4] at H
        have c4b0 : (a0 == 13) = false := beq_eq_false_iff_ne.mpr c4
        have c4b1 : (a0 != 13) = true := bne_iff_ne.mpr c4
        obtain rfl := Option.some.inj H
        go_enter Tryz.func62, Tryz.ntmps62
        go_wp2
        go_ret
        exact ⟨by first | rfl | (simp; done) | (simp [*]; done), by repeat (first | exact Drawn0.refl _ | apply Drawn0.step)⟩
end Go.Proofs.YtieompfmhnpnaaaGreat.H
namespace Go.Proofs.YtieompfmhnpnaaaGreat.H
open Go.RowKit Go.Proofs.YtieompfmhnpnaaaGreatW.PrintWords Go.Proofs.YtieompfmhnpnaaaGreatW.PrintLast Go.Proofs.YtieompfmhnpnaaaGreatW.PrintMore
attribute [local go_sem] max2_int min2_int max_two min_two max_three min_three max_four min_four
set_option linter.unusedVariables false
set_option linter.unusedSimpArgs false
mutual
def text_Trim.j1 : Nat → ByteArray → Int → Int → Option (ByteArray)
  | 0, _, _, _ => none
  | k + 1, x0, x3, x4 => text_Trim.l1 k x0 x3 x4
def text_Trim.l1 : Nat → ByteArray → Int → Int → Option (ByteArray)
  | 0, _, _, _ => none
  | k + 1, x0, x3, x4 => if x3 < x4 then (if 0 ≤ (wrap64 (x4 - 1)) then (if (wrap64 (x4 - 1)) < (x0.size : Int) then ((text_white.f (bt x0 (wrap64 (x4 - 1)))).bind fun t214 => (if t214 = true then (text_Trim.l1 k x0 x3 (wrap64 (x4 - 1))) else (if 0 ≤ x3 then (if x3 ≤ x4 then (if x4 ≤ (x0.size : Int) then (some (x0.extract (x3 : Int).toNat (x4 : Int).toNat)) else (none)) else (none)) else (none)))) else (none)) else (none)) else (if 0 ≤ x3 then (if x3 ≤ x4 then (if x4 ≤ (x0.size : Int) then (some (x0.extract (x3 : Int).toNat (x4 : Int).toNat)) else (none)) else (none)) else (none))
def text_Trim.l0 : Nat → ByteArray → Int → Int → Option (ByteArray)
  | 0, _, _, _ => none
  | k + 1, x0, x3, x4 => if x3 < x4 then (if 0 ≤ x3 then (if x3 < (x0.size : Int) then ((text_white.f (bt x0 x3)).bind fun t213 => (if t213 = true then (text_Trim.l0 k x0 (wrap64 (x3 + 1)) x4) else (text_Trim.j1 k x0 x3 x4))) else (none)) else (none)) else (text_Trim.j1 k x0 x3 x4)
end
def text_Trim.f (k : Nat) (a0 : ByteArray) : Option (ByteArray) := text_Trim.l0 k a0 0 (a0.size : Int)
theorem text_Trim.mono_l : ∀ k, (∀ y0 y1 y2, LeO (text_Trim.j1 k y0 y1 y2) (text_Trim.j1 (k + 1) y0 y1 y2)) ∧ (∀ y0 y1 y2, LeO (text_Trim.l1 k y0 y1 y2) (text_Trim.l1 (k + 1) y0 y1 y2)) ∧ (∀ y0 y1 y2, LeO (text_Trim.l0 k y0 y1 y2) (text_Trim.l0 (k + 1) y0 y1 y2))
  | 0 => ⟨fun _ _ _ r h => by simp [text_Trim.j1] at h, fun _ _ _ r h => by simp [text_Trim.l1] at h, fun _ _ _ r h => by simp [text_Trim.l0] at h⟩
  | k + 1 => by
    obtain ⟨ih0, ih1, ih2⟩ := text_Trim.mono_l k
    refine ⟨?_, ?_, ?_⟩
    · intro y0 y1 y2
      unfold text_Trim.j1
      repeat' first
      | (with_reducible exact ih0 _ _ _)
      | (with_reducible exact ih1 _ _ _)
      | (with_reducible exact ih2 _ _ _)
      | (with_reducible exact LeO.refl _)
      | (with_reducible exact LeO.none _)
      | (with_reducible refine LeO.ite ?_ ?_)
      | (with_reducible refine LeO.bind ?_ (fun _ => ?_))
      | exact ih0 _ _ _
      | exact ih1 _ _ _
      | exact ih2 _ _ _
      | exact LeO.none _
      | refine LeO.ite ?_ ?_
      | refine LeO.bind ?_ (fun _ => ?_)
    · intro y0 y1 y2
      unfold text_Trim.l1
      repeat' first
      | (with_reducible exact ih0 _ _ _)
      | (with_reducible exact ih1 _ _ _)
      | (with_reducible exact ih2 _ _ _)
      | (with_reducible exact LeO.refl _)
      | (with_reducible exact LeO.none _)
      | (with_reducible refine LeO.ite ?_ ?_)
      | (with_reducible refine LeO.bind ?_ (fun _ => ?_))
      | exact ih0 _ _ _
      | exact ih1 _ _ _
      | exact ih2 _ _ _
      | exact LeO.none _
      | refine LeO.ite ?_ ?_
      | refine LeO.bind ?_ (fun _ => ?_)
    · intro y0 y1 y2
      unfold text_Trim.l0
      repeat' first
      | (with_reducible exact ih0 _ _ _)
      | (with_reducible exact ih1 _ _ _)
      | (with_reducible exact ih2 _ _ _)
      | (with_reducible exact LeO.refl _)
      | (with_reducible exact LeO.none _)
      | (with_reducible refine LeO.ite ?_ ?_)
      | (with_reducible refine LeO.bind ?_ (fun _ => ?_))
      | exact ih0 _ _ _
      | exact ih1 _ _ _
      | exact ih2 _ _ _
      | exact LeO.none _
      | refine LeO.ite ?_ ?_
      | refine LeO.bind ?_ (fun _ => ?_)
theorem text_Trim.mono : ∀ a0 k, LeO (text_Trim.f k a0) (text_Trim.f (k + 1) a0) := by
  intro a0 k
  obtain ⟨ih0, ih1, ih2⟩ := text_Trim.mono_l k
  unfold text_Trim.f
  repeat' first
      | (with_reducible exact ih0 _ _ _)
      | (with_reducible exact ih1 _ _ _)
      | (with_reducible exact ih2 _ _ _)
      | (with_reducible exact LeO.refl _)
      | (with_reducible exact LeO.none _)
      | (with_reducible refine LeO.ite ?_ ?_)
      | (with_reducible refine LeO.bind ?_ (fun _ => ?_))
      | exact ih0 _ _ _
      | exact ih1 _ _ _
      | exact ih2 _ _ _
      | exact LeO.none _
      | refine LeO.ite ?_ ?_
      | refine LeO.bind ?_ (fun _ => ?_)
set_option maxHeartbeats 8000000 in
set_option maxRecDepth 100000 in
theorem text_Trim.calls (k : Nat) (a0 : ByteArray) (r : ByteArray) (w : World) (h : text_Trim.f k a0 = some r) :
    Calls Tryz.prog 24 #[.string a0] w fun e w' => e = .returned (.string r) ∧ Drawn0 w w' := by
  have H : (text_Trim.l0 k a0 0 (a0.size : Int)) = some r := h
  clear h
  have HC2 := Aside0.mk H
  clear H
  go_enter Tryz.func24, Tryz.ntmps24
  go_upto_block 0 with (fail)
  go_cut [3] (fun v3 wc => ∃ (kq : Nat) (x3_1 : Int), v3 = .int .i64 x3_1 ∧ Aside0 (text_Trim.j1 kq a0 x3_1 (a0.size : Int) = some r) ∧ Aside0 (kq ≤ k) ∧ Drawn0 w wc)
  case first =>
    have H := HC2.out
    clear HC2
    have H' := Aside0.mk H
    clear H
    go_wp2
    go_loopg [3] k (fun kq v3 w' => ∃ (x3_1 : Int), v3 = .int .i64 x3_1 ∧ Aside0 (text_Trim.l0 kq a0 x3_1 (a0.size : Int) = some r) ∧ Aside0 (kq ≤ k) ∧ Drawn0 w w')
    case atStart => exact ⟨(0), (by first | rfl | (simp; done) | (simp [*]; done)), H', ⟨Nat.le_refl _⟩, by repeat (first | exact Drawn0.refl _ | apply Drawn0.step)⟩
    case round =>
      clear H'
      try clear c2
      try clear p2
      obtain ⟨x3_1, rfl, HA, HK1, ⟨m1, rfl⟩⟩ := hrel
      cases gk with
      | zero => exact absurd HA.out (by simp [text_Trim.l0])
      | succ k1 =>
        have H := HA.out
        clear HA
        simp only [text_Trim.l0] at H
        by_cases c3 : x3_1 < (a0.size : Int)
        · rw [if_pos c3] at H
          have c3b0 : decide (x3_1 < (a0.size : Int)) = true := decide_eq_true c3
          clear c3
          (first | rw [c3b0] | (simp only [i64_w, i32_w]; rw [c3b0]) | skip)
          by_cases c4 : 0 ≤ x3_1
          · rw [if_pos c4] at H
            have c4b0 : decide (0 ≤ x3_1) = true := decide_eq_true c4
            clear c4
            by_cases c5 : x3_1 < (a0.size : Int)
            · rw [if_pos c5] at H
              have c5b0 : decide (x3_1 < (a0.size : Int)) = true := decide_eq_true c5
              clear c5
              replace H := Option.bind_eq_some_iff.mp H
              obtain ⟨t213, A70, H⟩ := H
              replace H : (if t213 = true then (text_Trim.l0 k1 a0 (wrap64 (x3_1 + 1)) (a0.size : Int)) else (text_Trim.j1 k1 a0 x3_1 (a0.size : Int))) = some r := H
              have A7 := Aside0.mk A70
              clear A70
              by_cases c8 : t213 = true
              · subst c8
                have H1 : (text_Trim.l0 k1 a0 (wrap64 (x3_1 + 1)) (a0.size : Int)) = some r := by rw [if_pos rfl] at H; exact H
                clear H
                have H := H1
                clear H1
                have H' := Aside0.mk H
                clear H
                have p6 : 0 ≤ (x3_1 : Int) := of_decide_eq_true (by first | (with_reducible assumption) | assumption)
                have q6 : x3_1 < (a0.size : Int) := of_decide_eq_true (by first | (with_reducible assumption) | assumption)
                have hx6 := bt_at a0 x3_1
                replace p6 := eq_true p6
                replace q6 := eq_true q6
                go_wp2_with (first | (go_at_call 62; (with_reducible refine (text_white.calls (bt a0 x3_1) true _ A7.out).mono ?_); rintro e w' ⟨rfl, ⟨nd, rfl⟩⟩))
                go_roundg k1
                case measure => have := HK1.out; omega
                case rel => exact ⟨(wrap64 (x3_1 + 1)), (by first | rfl | (simp; done) | (simp [*]; done)), H', ⟨by have := HK1.out; omega⟩, by repeat (first | exact Drawn0.refl _ | apply Drawn0.step)⟩
              · replace c8 := Bool.eq_false_iff.mpr c8
                subst c8
                have H1 : (text_Trim.j1 k1 a0 x3_1 (a0.size : Int)) = some r := by rw [if_neg (show ¬ (false = true) by decide)] at H; exact H
                clear H
                have H := H1
                clear H1
                have H' := Aside0.mk H
                clear H
                have p6 : 0 ≤ (x3_1 : Int) := of_decide_eq_true (by first | (with_reducible assumption) | assumption)
                have q6 : x3_1 < (a0.size : Int) := of_decide_eq_true (by first | (with_reducible assumption) | assumption)
                have hx6 := bt_at a0 x3_1
                replace p6 := eq_true p6
                replace q6 := eq_true q6
                go_wp2_with (first | (go_at_call 62; (with_reducible refine (text_white.calls (bt a0 x3_1) false _ A7.out).mono ?_); rintro e w' ⟨rfl, ⟨nd, rfl⟩⟩))
                go_meet
                case rel => exact ⟨_, (x3_1), (by first | rfl | (simp; done) | (simp [*]; done)), H', ⟨by have := HK1.out; first | omega | exact Nat.le_refl _⟩, by repeat (first | exact Drawn0.refl _ | apply Drawn0.step)⟩
            · rw [if_neg c5] at H
              exact absurd H (by simp)
          · rw [if_neg c4] at H
            exact absurd H (by simp)
        · rw [if_neg c3] at H
          have c3b0 : decide (x3_1 < (a0.size : Int)) = false := decide_eq_false c3
          clear c3
          (first | rw [c3b0] | (simp only [i64_w, i32_w]; rw [c3b0]) | skip)
          have H' := Aside0.mk H
          clear H
          go_wp2
          go_meet
          case rel => exact ⟨_, (x3_1), (by first | rfl | (simp; done) | (simp [*]; done)), H', ⟨by have := HK1.out; first | omega | exact Nat.le_refl _⟩, by repeat (first | exact Drawn0.refl _ | apply Drawn0.step)⟩
  case rest =>
    clear HC2
    try clear c2
    try clear p2
    try clear c3
    try clear c3b0
    try clear c4
    try clear c4b0
    try clear c5
    try clear c5b0
    try clear p6
    try clear q6
    try clear hx6
    try clear c8
    try clear p2
    try clear p6
    try clear q6
    obtain ⟨kq, x3_1, rfl, HA, HJ1, ⟨mc1, rfl⟩⟩ := hcut
    cases kq with
    | zero => exact absurd HA.out (by simp [text_Trim.j1])
    | succ kj1 =>
      have H := HA.out
      clear HA
      simp only [text_Trim.j1] at H
      have H' := Aside0.mk H
      clear H
      go_wp2
      go_loopg [4] kj1 (fun kq v4 w' => ∃ (x4_2 : Int), v4 = .int .i64 x4_2 ∧ Aside0 (text_Trim.l1 kq a0 x3_1 x4_2 = some r) ∧ Aside0 (kq ≤ kj1) ∧ Drawn0 w w')
      case atStart => exact ⟨((a0.size : Int)), (by first | rfl | (simp; done) | (simp [*]; done)), H', ⟨Nat.le_refl _⟩, by repeat (first | exact Drawn0.refl _ | apply Drawn0.step)⟩
      case round =>
        clear H'
        try clear c1
        try clear c2
        try clear p2
        try clear c3
        try clear c3b0
        try clear c4
        try clear c4b0
        try clear c5
        try clear c5b0
        try clear p6
        try clear q6
        try clear hx6
        try clear c8
        try clear p2
        try clear p6
        try clear q6
        obtain ⟨x4_2, rfl, HA, HK2, ⟨m2, rfl⟩⟩ := hrel
        cases gk with
        | zero => exact absurd HA.out (by simp [text_Trim.l1])
        | succ k2 =>
          have H := HA.out
          clear HA
          simp only [text_Trim.l1] at H
          by_cases c9 : x3_1 < x4_2
          · rw [if_pos c9] at H
            have c9b0 : decide (x3_1 < x4_2) = true := decide_eq_true c9
            clear c9
            obtain ⟨ji10, hji10⟩ : ∃ j_ : Int, (wrap64 (x4_2 - 1)) = j_ := ⟨_, rfl⟩
            replace H : (if 0 ≤ (ji10) then (if (ji10) < (a0.size : Int) then ((text_white.f (bt a0 (ji10))).bind fun t214 => (if t214 = true then (text_Trim.l1 k2 a0 x3_1 ji10) else (if 0 ≤ x3_1 then (if x3_1 ≤ x4_2 then (if x4_2 ≤ (a0.size : Int) then (some (a0.extract (x3_1 : Int).toNat (x4_2 : Int).toNat)) else (none)) else (none)) else (none)))) else (none)) else (none)) = some r := by first | (rw [hji10] at H; exact H) | (simp only [hji10] at H ⊢; exact H)
            have hji10w : (IntKind.i64.wrap (x4_2 - 1)) = ji10 := (i64_w _).trans hji10
            by_cases c11 : 0 ≤ (ji10)
            · rw [if_pos c11] at H
              have c11b0 : decide (0 ≤ (ji10)) = true := decide_eq_true c11
              clear c11
              by_cases c12 : (ji10) < (a0.size : Int)
              · rw [if_pos c12] at H
                have c12b0 : decide ((ji10) < (a0.size : Int)) = true := decide_eq_true c12
                clear c12
                replace H := Option.bind_eq_some_iff.mp H
                obtain ⟨t214, A140, H⟩ := H
                replace H : (if t214 = true then (text_Trim.l1 k2 a0 x3_1 ji10) else (if 0 ≤ x3_1 then (if x3_1 ≤ x4_2 then (if x4_2 ≤ (a0.size : Int) then (some (a0.extract (x3_1 : Int).toNat (x4_2 : Int).toNat)) else (none)) else (none)) else (none))) = some r := H
                have A14 := Aside0.mk A140
                clear A140
                by_cases c15 : t214 = true
                · subst c15
                  have H1 : (text_Trim.l1 k2 a0 x3_1 ji10) = some r := by rw [if_pos rfl] at H; exact H
                  clear H
                  have H := H1
                  clear H1
                  have H' := Aside0.mk H
                  clear H
                  have p13 : 0 ≤ ((ji10) : Int) := of_decide_eq_true (by first | (with_reducible assumption) | assumption)
                  have q13 : (ji10) < (a0.size : Int) := of_decide_eq_true (by first | (with_reducible assumption) | assumption)
                  have hx13 := bt_at a0 (ji10)
                  replace p13 := eq_true p13
                  replace q13 := eq_true q13
                  go_wp2_with (first | (go_at_call 62; (with_reducible refine (text_white.calls (bt a0 (ji10)) true _ A14.out).mono ?_); rintro e w' ⟨rfl, ⟨nd, rfl⟩⟩))
                  go_roundg k2
                  case measure => have := HJ1.out; have := HK2.out; omega
                  case rel => exact ⟨(ji10), (by first | rfl | (simp; done) | (simp only [← hji10] <;> (first | rfl | simp)) | (simp [*]; done)), H', ⟨by have := HJ1.out; have := HK2.out; omega⟩, by repeat (first | exact Drawn0.refl _ | apply Drawn0.step)⟩
                · replace c15 := Bool.eq_false_iff.mpr c15
                  subst c15
                  have H1 : (if 0 ≤ x3_1 then (if x3_1 ≤ x4_2 then (if x4_2 ≤ (a0.size : Int) then (some (a0.extract (x3_1 : Int).toNat (x4_2 : Int).toNat)) else (none)) else (none)) else (none)) = some r := by rw [if_neg (show ¬ (false = true) by decide)] at H; exact H
                  clear H
                  have H := H1
                  clear H1
                  by_cases c16 : 0 ≤ x3_1
                  · rw [if_pos c16] at H
                    have c16b0 := eq_true c16
                    have c16b1 : decide (0 ≤ x3_1) = true := decide_eq_true c16
                    clear c16
                    by_cases c17 : x3_1 ≤ x4_2
                    · rw [if_pos c17] at H
                      have c17b0 := eq_true c17
                      have c17b1 : decide (x3_1 ≤ x4_2) = true := decide_eq_true c17
                      clear c17
                      by_cases c18 : x4_2 ≤ (a0.size : Int)
                      · rw [if_pos c18] at H
                        have c18b0 := eq_true c18
                        have c18b1 : decide (x4_2 ≤ (a0.size : Int)) = true := decide_eq_true c18
                        clear c18
                        obtain rfl := Option.some.inj H
                        have p13 : 0 ≤ ((ji10) : Int) := of_decide_eq_true (by first | (with_reducible assumption) | assumption)
                        have q13 : (ji10) < (a0.size : Int) := of_decide_eq_true (by first | (with_reducible assumption) | assumption)
                        have hx13 := bt_at a0 (ji10)
                        replace p13 := eq_true p13
                        replace q13 := eq_true q13
                        go_wp2_with (first | (go_at_call 62; (with_reducible refine (text_white.calls (bt a0 (ji10)) false _ A14.out).mono ?_); rintro e w' ⟨rfl, ⟨nd, rfl⟩⟩))
                        go_ret
                        exact ⟨by first | rfl | (simp; done) | (simp only [← hji10] <;> (first | rfl | simp)) | (simp [*]; done), by repeat (first | exact Drawn0.refl _ | apply Drawn0.step)⟩
                      · rw [if_neg c18] at H
                        exact absurd H (by simp)
                    · rw [if_neg c17] at H
                      exact absurd H (by simp)
                  · rw [if_neg c16] at H
                    exact absurd H (by simp)
              · rw [if_neg c12] at H
                exact absurd H (by simp)
            · rw [if_neg c11] at H
              exact absurd H (by simp)
          · rw [if_neg c9] at H
            have c9b0 : decide (x3_1 < x4_2) = false := decide_eq_false c9
            clear c9
            by_cases c19 : 0 ≤ x3_1
            · rw [if_pos c19] at H
              have c19b0 := eq_true c19
              have c19b1 : decide (0 ≤ x3_1) = true := decide_eq_true c19
              clear c19
              by_cases c20 : x3_1 ≤ x4_2
              · rw [if_pos c20] at H
                have c20b0 := eq_true c20
                have c20b1 : decide (x3_1 ≤ x4_2) = true := decide_eq_true c20
                clear c20
                by_cases c21 : x4_2 ≤ (a0.size : Int)
                · rw [if_pos c21] at H
                  have c21b0 := eq_true c21
                  have c21b1 : decide (x4_2 ≤ (a0.size : Int)) = true := decide_eq_true c21
                  clear c21
                  obtain rfl := Option.some.inj H
                  go_wp2
                  go_ret
                  exact ⟨by first | rfl | (simp; done) | (simp [*]; done), by repeat (first | exact Drawn0.refl _ | apply Drawn0.step)⟩
                · rw [if_neg c21] at H
                  exact absurd H (by simp)
              · rw [if_neg c20] at H
                exact absurd H (by simp)
            · rw [if_neg c19] at H
              exact absurd H (by simp)
def missiveref09_white.f (a0 : Int) : Option (Bool) := if a0 = 32 then (some true) else (some (a0 == 9))
set_option maxHeartbeats 8000000 in
set_option maxRecDepth 100000 in
theorem missiveref09_white.calls (a0 : Int) (r : Bool) (w : World) (h : missiveref09_white.f a0 = some r) :
    Calls Tryz.prog 64 #[.int .u8 a0] w fun e w' => e = .returned (.bool r) ∧ Drawn0 w w' := by
  have H : (if a0 = 32 then (some true) else (some (a0 == 9))) = some r := h
  clear h
  by_cases c2 : a0 = 32
  · rw [if_pos c2] at H
    have c2b0 : (a0 == 32) = true := beq_iff_eq.mpr c2
    have c2b1 : (a0 != 32) = false := bne_eq_false_iff_eq.mpr c2
    clear c2
    obtain rfl := Option.some.inj H
    go_enter Tryz.func64, Tryz.ntmps64
    go_wp2
    go_ret
    exact ⟨by first | rfl | (simp; done) | (simp [*]; done), by repeat (first | exact Drawn0.refl _ | apply Drawn0.step)⟩
  · rw [if_neg c2] at H
    have c2b0 : (a0 == 32) = false := beq_eq_false_iff_ne.mpr c2
    have c2b1 : (a0 != 32) = true := bne_iff_ne.mpr c2
    obtain rfl := Option.some.inj H
    go_enter Tryz.func64, Tryz.ntmps64
    go_wp2
    go_ret
    exact ⟨by first | rfl | (simp; done) | (simp [*]; done), by repeat (first | exact Drawn0.refl _ | apply Drawn0.step)⟩
end Go.Proofs.YtieompfmhnpnaaaGreat.H
end
section
namespace Go.Proofs
open Go.Shelf
def Tryz.lays169_ren : Go.Shelf.Ren := ⟨fun | 169 => 54 | n => n, fun | 70 => 64 | 9 => 9 | 0 => 0 | 72 => 66 | 37 => 45 | 127 => 107 | 3 => 3 | 5 => 5 | n => n, fun | n => n⟩
theorem Tryz.lays169 : Go.Proofs.Lays.n169 Tryz.prog Tryz.lays169_ren := {
  mixed := by kernel_rfl
  f169 := Tryz.func54.trans (congrArg some (by kernel_rfl))
  t0 := Tryz.underlying0
  a0 := Tryz.isAgg0
  z0 := Tryz.sizeOf0
  v0 := Tryz.zeroValue0
  t3 := Tryz.underlying3
  a3 := Tryz.isAgg3
  z3 := Tryz.sizeOf3
  v3 := Tryz.zeroValue3
  t9 := Tryz.underlying9
  a9 := Tryz.isAgg9
  z9 := Tryz.sizeOf9
  v9 := Tryz.zeroValue9
  t37 := Tryz.underlying45
  a37 := Tryz.isAgg45
  z37 := Tryz.sizeOf45
  v37 := Tryz.zeroValue45
  t70 := Tryz.underlying64
  a70 := Tryz.isAgg64
  z70 := Tryz.sizeOf64
  v70 := Tryz.zeroValue64
  t72 := Tryz.underlying66
  a72 := Tryz.isAgg66
  z72 := Tryz.sizeOf66
  v72 := Tryz.zeroValue66
  t127 := Tryz.underlying107
  a127 := Tryz.isAgg107
  z127 := Tryz.sizeOf107
  v127 := Tryz.zeroValue107 }
theorem Tryz.Builder_Extra_169 : Builder.Extra Tryz.prog Tryz.lays169_ren := {
  sizeBuilder := by kernel_rfl
  liesBuilder := by kernel_rfl
  t5 := Tryz.underlying5
  a5 := Tryz.isAgg5
  z5 := Tryz.sizeOf5
  v5 := Tryz.zeroValue5
  infoByte := by kernel_rfl
  cellsByte := by kernel_rfl
  sizeByte := by kernel_rfl
  neB5 := by decide }
def Tryz.lays156_ren : Go.Shelf.Ren := ⟨fun | 156 => 58 | 165 => 85 | 166 => 51 | 169 => 54 | 240 => 79 | 241 => 97 | 276 => 92 | 277 => 109 | n => n, fun | 31 => 42 | 9 => 9 | 3 => 3 | 4 => 4 | 0 => 0 | 20 => 20 | 72 => 66 | 76 => 69 | 70 => 64 | 37 => 45 | 75 => 68 | 127 => 107 | 164 => 112 | 5 => 5 | 80 => 73 | n => n, fun | n => n⟩
theorem Tryz.lays156 : Go.Proofs.Lays.n156 Tryz.prog Tryz.lays156_ren := {
  mixed := by kernel_rfl
  f156 := Tryz.func58.trans (congrArg some (by kernel_rfl))
  f165 := Tryz.func85.trans (congrArg some (by kernel_rfl))
  f166 := Tryz.func51.trans (congrArg some (by kernel_rfl))
  f169 := Tryz.func54.trans (congrArg some (by kernel_rfl))
  f240 := Tryz.func79.trans (congrArg some (by kernel_rfl))
  f241 := Tryz.func97.trans (congrArg some (by kernel_rfl))
  f276 := Tryz.func92.trans (congrArg some (by kernel_rfl))
  f277 := Tryz.func109.trans (congrArg some (by kernel_rfl))
  t0 := Tryz.underlying0
  a0 := Tryz.isAgg0
  z0 := Tryz.sizeOf0
  v0 := Tryz.zeroValue0
  t3 := Tryz.underlying3
  a3 := Tryz.isAgg3
  z3 := Tryz.sizeOf3
  v3 := Tryz.zeroValue3
  t4 := Tryz.underlying4
  a4 := Tryz.isAgg4
  z4 := Tryz.sizeOf4
  v4 := Tryz.zeroValue4
  t9 := Tryz.underlying9
  a9 := Tryz.isAgg9
  z9 := Tryz.sizeOf9
  v9 := Tryz.zeroValue9
  t20 := Tryz.underlying20
  a20 := Tryz.isAgg20
  z20 := Tryz.sizeOf20
  v20 := Tryz.zeroValue20
  t31 := Tryz.underlying42
  a31 := Tryz.isAgg42
  z31 := Tryz.sizeOf42
  v31 := Tryz.zeroValue42
  t37 := Tryz.underlying45
  a37 := Tryz.isAgg45
  z37 := Tryz.sizeOf45
  v37 := Tryz.zeroValue45
  t70 := Tryz.underlying64
  a70 := Tryz.isAgg64
  z70 := Tryz.sizeOf64
  v70 := Tryz.zeroValue64
  t72 := Tryz.underlying66
  a72 := Tryz.isAgg66
  z72 := Tryz.sizeOf66
  v72 := Tryz.zeroValue66
  t75 := Tryz.underlying68
  a75 := Tryz.isAgg68
  z75 := Tryz.sizeOf68
  v75 := Tryz.zeroValue68
  t76 := Tryz.underlying69
  a76 := Tryz.isAgg69
  z76 := Tryz.sizeOf69
  v76 := Tryz.zeroValue69
  t127 := Tryz.underlying107
  a127 := Tryz.isAgg107
  z127 := Tryz.sizeOf107
  v127 := Tryz.zeroValue107
  t164 := Tryz.underlying112
  a164 := Tryz.isAgg112
  z164 := Tryz.sizeOf112
  v164 := Tryz.zeroValue112 }
theorem Tryz.Builder_Extra_156 : Builder.Extra Tryz.prog Tryz.lays156_ren := {
  sizeBuilder := by kernel_rfl
  liesBuilder := by kernel_rfl
  t5 := Tryz.underlying5
  a5 := Tryz.isAgg5
  z5 := Tryz.sizeOf5
  v5 := Tryz.zeroValue5
  infoByte := by kernel_rfl
  cellsByte := by kernel_rfl
  sizeByte := by kernel_rfl
  neB5 := by decide }
open Go.RowKit in
theorem Tryz.strings_Join_none (a : Option Addr) (c : Nat) (sep : ByteArray) (w : World) :
    Calls Tryz.prog 58 #[.slice a 0 c, .string sep] w fun e w' => e = .returned (.string ⟨#[]⟩) ∧ w' = w := Any.strings_Join_none Tryz.lays156 Tryz.Builder_Extra_156 a c sep w
open Go.RowKit in
theorem Tryz.strings_Join (bk o c : Nat) (xs : List ByteArray) (sep : ByteArray) (w : World) (hcells : ∀ (j : Nat) x, xs[j]? = some x → w.cell? ⟨bk, o + j, none⟩ = some (.string x)) (hbk : bk < w.heap.size) (hN : xs.length ≤ 140737488355328) (hcap : xs.length ≤ c) (hlen : (Lib.join (xs.map (·.data.toList)) sep.data.toList).length ≤ 140737488355328) :
    Calls Tryz.prog 58 #[.slice (some ⟨bk, o, none⟩) xs.length c, .string sep] w fun e w' => e = .returned (.string ⟨(Lib.join (xs.map (·.data.toList)) sep.data.toList).toArray⟩) ∧ Below w.heap.size w w' := Any.strings_Join Tryz.lays156 Tryz.Builder_Extra_156 bk o c xs sep w hcells hbk hN hcap hlen
def Tryz.lays137_ren : Go.Shelf.Ren := ⟨fun | 137 => 73 | 217 => 90 | 266 => 102 | n => n, fun | 9 => 9 | 5 => 5 | 3 => 3 | n => n, fun | n => n⟩
theorem Tryz.lays137 : Go.Proofs.Lays.n137 Tryz.prog Tryz.lays137_ren := {
  mixed := by kernel_rfl
  f137 := Tryz.func73.trans (congrArg some (by kernel_rfl))
  f217 := Tryz.func90.trans (congrArg some (by kernel_rfl))
  f266 := Tryz.func102.trans (congrArg some (by kernel_rfl))
  t3 := Tryz.underlying3
  a3 := Tryz.isAgg3
  z3 := Tryz.sizeOf3
  v3 := Tryz.zeroValue3
  t5 := Tryz.underlying5
  a5 := Tryz.isAgg5
  z5 := Tryz.sizeOf5
  v5 := Tryz.zeroValue5
  t9 := Tryz.underlying9
  a9 := Tryz.isAgg9
  z9 := Tryz.sizeOf9
  v9 := Tryz.zeroValue9 }
open Go.RowKit in
theorem Tryz.strings_IndexByte (s : ByteArray) (c : Int) (w : World) :
    Calls Tryz.prog 73 #[.string s, .int .u8 c] w fun e w' => e = .returned (.int .i64 (Lib.indexByte s.data.toList c.toNat.toUInt8)) ∧ w' = w := Any.strings_IndexByte Tryz.lays137 s c w
open Go.RowKit in
theorem Tryz.Builder_String_any_k (B b : Nat) (l : List UInt8) (w : World) (h : Lib.IsBuilderF 66 5 B b (Lib.byteCells l) w) (hBw : B ≤ w.heap.size) :
    Calls Tryz.prog 54 #[.pointer (some ⟨b, 0, none⟩)] w fun e w' => e = .returned (.string ⟨l.toArray⟩) ∧ (Lib.IsBuilderF 66 5 B b (Lib.byteCells l) w' ∧ Below B w w' ∧ Lib.OthersKept 5 (some b) w w') := Any.Builder_String_any_k Tryz.lays169 Tryz.Builder_Extra_169 B b l w h hBw
def Tryz.lays219_ren : Go.Shelf.Ren := ⟨fun | 219 => 89 | 217 => 90 | 225 => 99 | 224 => 100 | 267 => 101 | 266 => 102 | 314 => 110 | n => n, fun | 9 => 9 | 3 => 3 | 4 => 4 | 5 => 5 | 46 => 118 | 146 => 135 | 51 => 93 | n => n, fun | 1 => 0 | n => n⟩
theorem Tryz.lays219 : Go.Proofs.Lays.n219 Tryz.prog Tryz.lays219_ren := {
  mixed := by kernel_rfl
  f217 := Tryz.func90.trans (congrArg some (by kernel_rfl))
  f219 := Tryz.func89.trans (congrArg some (by kernel_rfl))
  f224 := Tryz.func100.trans (congrArg some (by kernel_rfl))
  f225 := Tryz.func99.trans (congrArg some (by kernel_rfl))
  f266 := Tryz.func102.trans (congrArg some (by kernel_rfl))
  f267 := Tryz.func101.trans (congrArg some (by kernel_rfl))
  f314 := Tryz.func110.trans (congrArg some (by kernel_rfl))
  t3 := Tryz.underlying3
  a3 := Tryz.isAgg3
  z3 := Tryz.sizeOf3
  v3 := Tryz.zeroValue3
  t4 := Tryz.underlying4
  a4 := Tryz.isAgg4
  z4 := Tryz.sizeOf4
  v4 := Tryz.zeroValue4
  t5 := Tryz.underlying5
  a5 := Tryz.isAgg5
  z5 := Tryz.sizeOf5
  v5 := Tryz.zeroValue5
  t9 := Tryz.underlying9
  a9 := Tryz.isAgg9
  z9 := Tryz.sizeOf9
  v9 := Tryz.zeroValue9
  t46 := Tryz.underlying118
  a46 := Tryz.isAgg118
  z46 := Tryz.sizeOf118
  v46 := Tryz.zeroValue118
  t51 := Tryz.underlying93
  a51 := Tryz.isAgg93
  z51 := Tryz.sizeOf93
  v51 := Tryz.zeroValue93
  t146 := Tryz.underlying135
  a146 := Tryz.isAgg135
  z146 := Tryz.sizeOf135
  v146 := Tryz.zeroValue135
  g1 := by kernel_rfl }
open Go.RowKit Go.Lib in
theorem Tryz.stringslite_Index_one (s : ByteArray) (c : UInt8) (w : World) :
    Calls Tryz.prog 89 #[.string s, .string ⟨#[c]⟩] w fun e w' => e = .returned (.int .i64 (Lib.indexByte s.data.toList c)) ∧ w' = w := Any.stringslite_Index_one Tryz.lays219 s c w
def Tryz.bld_ren : Go.Shelf.Ren := ⟨fun | 156 => 58 | 165 => 85 | 166 => 51 | 169 => 54 | 240 => 79 | 241 => 97 | 276 => 92 | 277 => 109 | 167 => 83 | n => n, fun | 31 => 42 | 9 => 9 | 3 => 3 | 4 => 4 | 0 => 0 | 20 => 20 | 72 => 66 | 76 => 69 | 70 => 64 | 37 => 45 | 75 => 68 | 127 => 107 | 164 => 112 | 5 => 5 | 80 => 73 | n => n, fun | n => n⟩
theorem Tryz.bld166 : Go.Proofs.Lays.n166 Tryz.prog Tryz.bld_ren := {
  mixed := by kernel_rfl
  f166 := Tryz.func51.trans (congrArg some (by kernel_rfl))
  f240 := Tryz.func79.trans (congrArg some (by kernel_rfl))
  f276 := Tryz.func92.trans (congrArg some (by kernel_rfl))
  t0 := Tryz.underlying0
  a0 := Tryz.isAgg0
  z0 := Tryz.sizeOf0
  v0 := Tryz.zeroValue0
  t3 := Tryz.underlying3
  a3 := Tryz.isAgg3
  z3 := Tryz.sizeOf3
  v3 := Tryz.zeroValue3
  t4 := Tryz.underlying4
  a4 := Tryz.isAgg4
  z4 := Tryz.sizeOf4
  v4 := Tryz.zeroValue4
  t9 := Tryz.underlying9
  a9 := Tryz.isAgg9
  z9 := Tryz.sizeOf9
  v9 := Tryz.zeroValue9
  t20 := Tryz.underlying20
  a20 := Tryz.isAgg20
  z20 := Tryz.sizeOf20
  v20 := Tryz.zeroValue20
  t37 := Tryz.underlying45
  a37 := Tryz.isAgg45
  z37 := Tryz.sizeOf45
  v37 := Tryz.zeroValue45
  t70 := Tryz.underlying64
  a70 := Tryz.isAgg64
  z70 := Tryz.sizeOf64
  v70 := Tryz.zeroValue64
  t72 := Tryz.underlying66
  a72 := Tryz.isAgg66
  z72 := Tryz.sizeOf66
  v72 := Tryz.zeroValue66
  t75 := Tryz.underlying68
  a75 := Tryz.isAgg68
  z75 := Tryz.sizeOf68
  v75 := Tryz.zeroValue68
  t164 := Tryz.underlying112
  a164 := Tryz.isAgg112
  z164 := Tryz.sizeOf112
  v164 := Tryz.zeroValue112 }
theorem Tryz.bld167 : Go.Proofs.Lays.n167 Tryz.prog Tryz.bld_ren := {
  mixed := by kernel_rfl
  f167 := Tryz.func83.trans (congrArg some (by kernel_rfl))
  f240 := Tryz.func79.trans (congrArg some (by kernel_rfl))
  f276 := Tryz.func92.trans (congrArg some (by kernel_rfl))
  t0 := Tryz.underlying0
  a0 := Tryz.isAgg0
  z0 := Tryz.sizeOf0
  v0 := Tryz.zeroValue0
  t4 := Tryz.underlying4
  a4 := Tryz.isAgg4
  z4 := Tryz.sizeOf4
  v4 := Tryz.zeroValue4
  t5 := Tryz.underlying5
  a5 := Tryz.isAgg5
  z5 := Tryz.sizeOf5
  v5 := Tryz.zeroValue5
  t9 := Tryz.underlying9
  a9 := Tryz.isAgg9
  z9 := Tryz.sizeOf9
  v9 := Tryz.zeroValue9
  t20 := Tryz.underlying20
  a20 := Tryz.isAgg20
  z20 := Tryz.sizeOf20
  v20 := Tryz.zeroValue20
  t37 := Tryz.underlying45
  a37 := Tryz.isAgg45
  z37 := Tryz.sizeOf45
  v37 := Tryz.zeroValue45
  t70 := Tryz.underlying64
  a70 := Tryz.isAgg64
  z70 := Tryz.sizeOf64
  v70 := Tryz.zeroValue64
  t72 := Tryz.underlying66
  a72 := Tryz.isAgg66
  z72 := Tryz.sizeOf66
  v72 := Tryz.zeroValue66
  t75 := Tryz.underlying68
  a75 := Tryz.isAgg68
  z75 := Tryz.sizeOf68
  v75 := Tryz.zeroValue68
  t164 := Tryz.underlying112
  a164 := Tryz.isAgg112
  z164 := Tryz.sizeOf112
  v164 := Tryz.zeroValue112 }
theorem Tryz.bldX : Builder.Extra Tryz.prog Tryz.bld_ren := {
  sizeBuilder := by kernel_rfl
  liesBuilder := by kernel_rfl
  t5 := Tryz.underlying5
  a5 := Tryz.isAgg5
  z5 := Tryz.sizeOf5
  v5 := Tryz.zeroValue5
  infoByte := by kernel_rfl
  cellsByte := by kernel_rfl
  sizeByte := by kernel_rfl
  neB5 := by decide }
open Go.RowKit in
theorem Tryz.WriteString (B b : Nat) (bs : List Value) (s : ByteArray) (w : World) (h : Lib.IsBuilderF 66 5 B b bs w) (hlen : bs.length + s.size ≤ 140737488355328) (hBw : B ≤ w.heap.size) :
    Calls Tryz.prog 51 #[.pointer (some ⟨b, 0, none⟩), .string s] w fun e w' => e = .returned (.tuple #[.int .i64 s.size, .nilIface]) ∧ (Lib.BuilderAtF 66 5 B b (.pointer (some ⟨b, 0, none⟩)) (bs ++ Lib.strCells s) w' ∧ Below B w w' ∧ Lib.OthersKept 5 (some b) w w') := Any.Builder_WriteString_k Tryz.bld166 Tryz.bldX B b bs s w h hlen hBw
open Go.RowKit in
theorem Tryz.WriteByte (B b : Nat) (bs : List Value) (c : Int) (w : World) (h : Lib.IsBuilderF 66 5 B b bs w) (hlen : bs.length + 1 ≤ 140737488355328) (hBw : B ≤ w.heap.size) :
    Calls Tryz.prog 83 #[.pointer (some ⟨b, 0, none⟩), .int .u8 c] w fun e w' => e = .returned .nilIface ∧ (Lib.BuilderAtF 66 5 B b (.pointer (some ⟨b, 0, none⟩)) (bs ++ [.int .u8 c]) w' ∧ Below B w w' ∧ Lib.OthersKept 5 (some b) w w') := Any.Builder_WriteByte_k Tryz.bld167 Tryz.bldX B b bs c w h hlen hBw
end Go.Proofs
end
section
namespace Go.Proofs.YtieompfmhnpnaaaGreat.H
open Go.RowKit Go.Proofs.YtieompfmhnpnaaaGreatW.PrintWords Go.Proofs.YtieompfmhnpnaaaGreatW.PrintLast Go.Proofs.YtieompfmhnpnaaaGreatW.PrintMore
set_option linter.unusedVariables false
set_option linter.unusedSimpArgs false
def lowB (c : UInt8) : UInt8 := if 65 ≤ c.toNat ∧ c.toNat ≤ 90 then c + 32 else c
def lowS (s : ByteArray) : ByteArray := ⟨(s.data.toList.map lowB).toArray⟩
theorem lowB_nat (c : UInt8) : ((lowB c).toNat : Int) = if 65 ≤ (c.toNat : Int) ∧ (c.toNat : Int) ≤ 90 then (c.toNat : Int) + 32 else c.toNat := by
  unfold lowB
  by_cases h : 65 ≤ c.toNat ∧ c.toNat ≤ 90
  · rw [if_pos h, if_pos (by omega)]
    rw [UInt8.toNat_add]
    simp
    omega
  · rw [if_neg h, if_neg (by omega)]
theorem lower_at (c : UInt8) : text_lower.f (c.toNat : Int) = some ((lowB c).toNat : Int) := by
  unfold text_lower.f
  rw [lowB_nat]
  have := c.toNat_lt
  by_cases h1 : 65 ≤ (c.toNat : Int)
  · by_cases h2 : (c.toNat : Int) ≤ 90
    · rw [if_pos h1, if_pos h2, if_pos ⟨h1, h2⟩]
      congr 1
      omega
    · rw [if_pos h1, if_neg h2, if_neg (fun h => h2 h.2)]
  · rw [if_neg h1, if_neg (fun h => h1 h.1)]
def byteInts (l : List UInt8) : List Int := l.map fun c => (c.toNat : Int)
theorem byteInts_back (l : List UInt8) : strOfNums (byteInts l) = ⟨l.toArray⟩ := by
  unfold strOfNums byteInts
  congr 2
  rw [List.map_map]
  conv => rhs; rw [← List.map_id l]
  apply List.map_congr_left
  intro c _
  simp
theorem info5' : ∃ i, Tryz.prog.info? 5 = some i ∧ i.zero = some (.int .u8 0) ∧ i.size = 1 ∧ i.bytes = 1 := by
  obtain ⟨i0, hi, hz0, hz1, hz2⟩ := info_parts info5
  exact ⟨i0, hi, hz0, hz1, hz2⟩
def lowRow (s : ByteArray) (f : UInt8 → UInt8) (k : Nat) : List Int := byteInts ((s.data.toList.take k).map lowB ++ (s.data.toList.drop k).map f)
theorem lowRow_length (s : ByteArray) (f : UInt8 → UInt8) (k : Nat) (h : k ≤ s.size) : (lowRow s f k).length = s.size := by
  have : s.data.toList.length = s.size := by simp
  simp [lowRow, byteInts]
  omega
theorem lowRow_at (s : ByteArray) (f : UInt8 → UInt8) (k : Nat) (h : k < s.size) : (lowRow s f k)[k]? = some ((f s[k]).toNat : Int) := by
  have hl : s.data.toList.length = s.size := by simp
  unfold lowRow byteInts
  rw [List.getElem?_map, List.getElem?_append_right (by simp; omega)]
  simp
  rw [Nat.min_eq_left (by omega)]
  simp [h]
  rfl
theorem lowRow_set (s : ByteArray) (f : UInt8 → UInt8) (k : Nat) (h : k < s.size) : (lowRow s f k).set k ((lowB s[k]).toNat : Int) = lowRow s f (k + 1) := by
  have hl : s.data.toList.length = s.size := by simp
  have hk : k < s.data.toList.length := by omega
  unfold lowRow byteInts
  rw [← List.map_set]
  congr 1
  rw [List.set_append_right _ _ (by simp; omega)]
  rw [List.take_succ_eq_append_getElem hk, List.map_append, List.append_assoc]
  congr 1
  have e : s.data.toList.drop k = s.data.toList[k] :: s.data.toList.drop (k + 1) := List.drop_eq_getElem_cons hk
  rw [e]
  simp
  rw [Nat.min_eq_left (by omega)]
  simp
  rfl
theorem lowRow_end (s : ByteArray) (f : UInt8 → UInt8) : strOfNums (lowRow s f s.size) = lowS s := by
  have hl : s.data.toList.length = s.size := by simp
  unfold lowRow
  rw [byteInts_back, List.drop_of_length_le (by omega), List.take_of_length_le (by omega)]
  simp [lowS]
theorem row_numsSet (xs : List Int) (k : Nat) (x : Int) : (nums .u8 xs).set k (.int .u8 x) = nums .u8 (xs.set k x) := by simp [nums, List.map_set]
theorem made_nums (n : Nat) : (madeCells (Value.int .u8 0).cells n).toList = nums .u8 (List.replicate n 0) := by
  apply List.ext_getElem
  · simp [nums, size_madeCells]
  · intro i h1 h2
    simp [madeCells, nums, Value.cells, Nat.mod_one]
theorem row_string {wr : World} {B g : Nat} {n : Nat} {xs : List Int} (h : wr.ownsRow B 5 1 (.slice (some ⟨g, 0, none⟩) n n) n (nums .u8 xs)) (hl : xs.length = n) :
    (convert 45 9 (.slice (some ⟨g, 0, none⟩) n n)).run Tryz.prog wr = .ok (.string (strOfNums xs)) wr := by
  refine run_convert_bytes_arg wr 45 5 Tryz.underlying45 Tryz.underlying5 g 0 n n xs hl ?_ 9 Tryz.underlying9
  intro i hi
  rw [Nat.zero_add, h.cellAt i (by omega)]
  simp [nums, List.getElem?_eq_getElem (show i < xs.length by omega), List.getD]
set_option maxHeartbeats 1000000 in
set_option maxRecDepth 100000 in
theorem mapped_lower (s : ByteArray) (w : World) (hs : s.size ≤ 1099511627776) :
    Calls Tryz.prog 49 #[.string s, .func (.func 50) #[] #[]] w fun e w' => e = .returned (.string (lowS s)) ∧ Below w.heap.size w w' := by
  obtain ⟨i0, hi, hz0, hz1, hz2⟩ := info5'
  have hmk : ∀ W : World, (Instr.makeSlice 45 (.int .i64 (s.size : Int)) (.int .i64 (s.size : Int))).run Tryz.prog W = .ok (.slice (some ⟨W.heap.size, 0, none⟩) s.size s.size) (W.alloc (.cells (madeCells (Value.int .u8 0).cells s.size) 5)) := fun W => by
    have := run_make (P := Tryz.prog) W 45 5 i0 (.int .u8 0) Tryz.underlying45 hi hz0 .i64 .i64 (s.size : Int) (s.size : Int) (by omega) (by omega) (by rw [hz2]; omega) (by omega)
    simpa [hz1] using this
  go_enter Tryz.func49, Tryz.ntmps49
  go_wp2_with fail
  have hrow0 : (w.alloc (Obj.cells (madeCells #[Value.int IntKind.u8 0] s.size) 5)).ownsRow w.heap.size 5 1 (.slice (some ⟨w.heap.size, 0, none⟩) s.size s.size) s.size (nums .u8 (lowRow s (fun _ => 0) 0)) := by
    have e : nums .u8 (lowRow s (fun _ => 0) 0) = (madeCells #[Value.int IntKind.u8 0] s.size).toList := by
      rw [show madeCells #[Value.int IntKind.u8 0] s.size = madeCells (Value.int .u8 0).cells s.size from rfl, made_nums]
      simp [lowRow, byteInts, List.map_const', nums]
    rw [e]
    exact World.ownsRow_lit w _ _ (Nat.le_refl _) (by unfold maxLen; omega) (by rw [size_madeCells]; omega)
  go_loopw [12] (fun i wr => ∃ k : Nat, k ≤ s.size ∧ i = .int .i64 k ∧ wr.ownsRow w.heap.size 5 1 (.slice (some ⟨w.heap.size, 0, none⟩) s.size s.size) s.size (nums .u8 (lowRow s (fun _ => 0) k)) ∧ Below w.heap.size w wr) (fun i _ => s.size - (intOf i).toNat)
  case atStart => exact ⟨0, Nat.zero_le _, rfl, hrow0, (Below.refl _ _).alloc (Nat.le_refl _) _⟩
  case round =>
    obtain ⟨k, hk, rfl, hown, hB⟩ := hrel
    clear hrow0 hmk
    by_cases hlt : k < s.size
    · have hcell : wr.cell? ⟨w.heap.size, k, none⟩ = some (.int .u8 0) := by
        rw [hown.cellAt k (by omega)]
        simp [nums, lowRow_at s (fun _ => 0) k hlt]
      have hfz := hown.frozenAt k
      have hlow := lower_at s[k]
      have HL := Lib.hid hlow
      clear hlow
      have hst := (hown.stored k (.int .u8 (lowB s[k]).toNat)).1
      rw [row_numsSet, lowRow_set s (fun _ => 0) k hlt] at hst
      have HST := Aside0.mk hst
      clear hst
      go_wp2_with fail
      refine (text_lower.calls _ _ _ HL.out).mono ?_
      rintro e w1 ⟨rfl, ⟨n, rfl⟩⟩
      go_wp2_with fail
      go_roundw
      case rel => exact ⟨k + 1, by omega, by go_num, HST.out, pw_below_drewN (hB.setCell (p := ⟨w.heap.size, k, none⟩) (Nat.le_refl _) _) n⟩
      case measure => simp [intOf]; omega
    · have hkk : k = s.size := by omega
      subst hkk
      have hc := row_string hown (lowRow_length s _ _ (Nat.le_refl _))
      rw [lowRow_end] at hc
      go_wp2_with fail
      go_ret
      exact ⟨rfl, hB⟩
def text_Lower.f (a0 : ByteArray) : Option ByteArray := if a0.size ≤ 1099511627776 then some (lowS a0) else none
theorem text_Lower.calls (a0 : ByteArray) (r : ByteArray) (w : World) (h : text_Lower.f a0 = some r) :
    Calls Tryz.prog 14 #[.string a0] w fun e w' => e = .returned (.string r) ∧ Below w.heap.size w w' := by
  unfold text_Lower.f at h
  by_cases hs : a0.size ≤ 1099511627776
  · rw [if_pos hs] at h
    obtain rfl := Option.some.inj h
    clear h
    go_enter Tryz.func14, Tryz.ntmps14
    go_wp2_with (go_at_call 49; refine (mapped_lower a0 _ hs).mono ?_; rintro e w1 ⟨rfl, hb⟩)
    go_ret
    exact ⟨rfl, hb⟩
  · rw [if_neg hs] at h
    cases h
def RowB (w : World) (g n : Nat) (xs : List Int) : Prop := ∀ j, j < n → w.cell? ⟨g, j, none⟩ = some (.int .u8 (xs.getD j 0)) ∧ w.frozen? ⟨g, j, none⟩ = false
theorem RowB.set {w : World} {g n : Nat} {xs : List Int} (h : RowB w g n xs) (hl : xs.length = n) (k : Nat) (hk : k < n) (x : Int) : RowB (w.setCell ⟨g, k, none⟩ (.int .u8 x)) g n (xs.set k x) := by
  intro j hj
  refine ⟨?_, by rw [World.frozen?_setCell]; exact (h j hj).2⟩
  by_cases e : j = k
  · subst e
    rw [World.cell?_setCell_same' _ _ _ (by rw [(h j hj).1]; rfl)]
    simp [List.getD, hl, hk]
  · have hne : (⟨g, k, none⟩ : Addr) ≠ ⟨g, j, none⟩ := fun h => e (by injection h with _ h2; exact h2.symm)
    rw [World.cell?_setCell_other _ _ _ _ hne, (h j hj).1]
    simp [List.getD, List.getElem?_set, Ne.symm e]
def missiveref01_Lower.f (a0 : ByteArray) : Option ByteArray := if a0.size ≤ 1099511627776 then some (lowS a0) else none
def strings_IndexByte.f (a0 : ByteArray) (a1 : Int) : Option Int := some (Lib.indexByte a0.data.toList a1.toNat.toUInt8)
theorem strings_IndexByte.calls (a0 : ByteArray) (a1 : Int) (r : Int) (w : World) (h : strings_IndexByte.f a0 a1 = some r) :
    Calls Tryz.prog 73 #[.string a0, .int .u8 a1] w fun e w' => e = .returned (.int .i64 r) ∧ Drawn0 w w' := by
  obtain rfl := Option.some.inj h
  exact (Tryz.strings_IndexByte a0 a1 w).mono fun e w' ⟨h1, h2⟩ => ⟨h1, by rw [h2]; exact Drawn0.refl _⟩
def cutAt (s : ByteArray) (c : UInt8) : ByteArray × ByteArray × Bool :=
  let i := Lib.indexByte s.data.toList c
  if 0 ≤ i then (s.extract 0 i.toNat, s.extract (i.toNat + 1) s.size, true) else (s, ⟨#[]⟩, false)
theorem indexByte_lt (l : List UInt8) (c : UInt8) : Lib.indexByte l c < l.length ∨ Lib.indexByte l c = -1 := by
  induction l with
  | nil => right; rfl
  | cons b l ih =>
    unfold Lib.indexByte
    by_cases hb : (b == c) = true
    · left; rw [if_pos hb]; simp
    · rw [if_neg hb]
      by_cases h1 : (Lib.indexByte l c == -1) = true
      · right; rw [if_pos h1]
      · left
        rw [if_neg h1]
        rcases ih with h | h
        · simp; omega
        · exact absurd (by simpa using h) (by simpa using h1)
set_option maxHeartbeats 1000000 in
set_option maxRecDepth 100000 in
theorem lite_Cut (s : ByteArray) (c : UInt8) (w : World) (hs : s.size ≤ 1099511627776) :
    Calls Tryz.prog 71 #[.string s, .string ⟨#[c]⟩] w fun e w' => e = .returned (.tuple #[.string (cutAt s c).1, .string (cutAt s c).2.1, .bool (cutAt s c).2.2]) ∧ Drawn0 w w' := by
  have hlt := indexByte_lt s.data.toList c
  have hge := Lib.indexByte_ge s.data.toList c
  have hsz : s.data.toList.length = s.size := by simp
  by_cases h : 0 ≤ Lib.indexByte s.data.toList c
  · have e : cutAt s c = (s.extract 0 (Lib.indexByte s.data.toList c).toNat, s.extract ((Lib.indexByte s.data.toList c).toNat + 1) s.size, true) := by
      unfold cutAt; simp [h]
    have E := Lib.hid e
    clear e
    obtain ⟨i, hi⟩ : ∃ i : Nat, Lib.indexByte s.data.toList c = i := ⟨(Lib.indexByte s.data.toList c).toNat, by omega⟩
    have hil : i < s.size := by rw [hi] at hlt; omega
    have HI := Lib.hid hi
    clear hi hlt hge h
    go_enter Tryz.func71, Tryz.ntmps71
    go_wp2_with fail
    refine (Tryz.stringslite_Index_one s c _).mono ?_
    rintro e w1 ⟨rfl, rfl⟩
    rw [HI.out]
    go_wp2_with fail
    have q1 : IntKind.i64.wrap ((i : Int) + 1) = (i : Int) + 1 := IntWalk.i64_in _ (by omega)
    have q2 : (0 : Int) ≤ (i : Int) + 1 := by omega
    have q3 : ((i : Int) + 1).toNat = i + 1 := by omega
    have q4 : i + 1 ≤ s.size := by omega
    have q5 : i ≤ s.size := by omega
    go_quiet (fail)
    go_wp2_with fail
    go_ret3
    exact ⟨by rw [E.out, HI.out]; rfl, ⟨_, rfl⟩⟩
  · have e : cutAt s c = (s, ⟨#[]⟩, false) := by
      unfold cutAt; simp [h]
    have E := Lib.hid e
    clear e
    have hi : Lib.indexByte s.data.toList c = -1 := by omega
    have HI := Lib.hid hi
    clear hi hlt hge h
    go_enter Tryz.func71, Tryz.ntmps71
    go_wp2_with fail
    refine (Tryz.stringslite_Index_one s c _).mono ?_
    rintro e w1 ⟨rfl, rfl⟩
    rw [HI.out]
    go_wp2_with fail
    go_ret3
    exact ⟨by rw [E.out]; rfl, Drawn0.refl _⟩
def strings_Cut.f (a0 : ByteArray) (a1 : ByteArray) : Option (ByteArray × ByteArray × Bool) :=
  if a0.size ≤ 1099511627776 ∧ a1.size = 1 then some (cutAt a0 (a1.data.toList.getD 0 0)) else none
set_option maxHeartbeats 1000000 in
theorem strings_Cut.calls (a0 : ByteArray) (a1 : ByteArray) (r1 : ByteArray) (r2 : ByteArray) (r3 : Bool) (w : World) (h : strings_Cut.f a0 a1 = some (r1, r2, r3)) :
    Calls Tryz.prog 40 #[.string a0, .string a1] w fun e w' => e = .returned (.tuple #[.string r1, .string r2, .bool r3]) ∧ Drawn0 w w' := by
  unfold strings_Cut.f at h
  by_cases hs : a0.size ≤ 1099511627776 ∧ a1.size = 1
  · rw [if_pos hs] at h
    obtain ⟨h1, h2⟩ := hs
    obtain ⟨c, rfl⟩ : ∃ c, a1 = ⟨#[c]⟩ := by
      obtain ⟨⟨l⟩⟩ := a1
      match l, h2 with
      | [c], _ => exact ⟨c, rfl⟩
    have h3 := Option.some.inj h
    have h4 : cutAt a0 c = (r1, r2, r3) := h3
    have H4 := Lib.hid h4
    clear h h2 h3 h4
    go_enter Tryz.func40, Tryz.ntmps40
    go_wp2_with fail
    refine (lite_Cut a0 c _ h1).mono ?_
    rintro e w1 ⟨rfl, ⟨n, rfl⟩⟩
    rw [H4.out]
    go_wp2_with fail
    go_ret3
    exact ⟨rfl, ⟨n, rfl⟩⟩
  · rw [if_neg hs] at h
    cases h
end Go.Proofs.YtieompfmhnpnaaaGreat.H
end
section
namespace Go.Proofs.YtieompfmhnpnaaaGreat.H
open Go.RowKit Go.Proofs.YtieompfmhnpnaaaGreatW.PrintWords Go.Proofs.YtieompfmhnpnaaaGreatW.PrintLast Go.Proofs.YtieompfmhnpnaaaGreatW.PrintMore
set_option linter.unusedVariables false
set_option linter.unusedSimpArgs false
def byteAt (s : ByteArray) (i : Nat) : UInt8 := s.data.toList.getD i 0
theorem byteAt_get (s : ByteArray) (i : Nat) (h : i < s.size) : s[i] = byteAt s i := by
  unfold byteAt
  have hl : s.data.toList.length = s.size := by simp
  rw [List.getD_eq_getElem?_getD, List.getElem?_eq_getElem (by omega)]
  simp
  rfl
def blankB (c : UInt8) : Bool := c == 32 || c == 9
theorem blank_at (c : UInt8) : header_blank.f (c.toNat : Int) = some (blankB c) := by
  unfold header_blank.f blankB
  have e : ∀ n : Nat, n < 256 → ((c == UInt8.ofNat n) = decide (c.toNat = n)) := fun n hn => by
    rw [Bool.eq_iff_iff]
    simp
    constructor
    · rintro rfl; simp; omega
    · intro h; rw [← h]; simp
  have e1 := e 32 (by decide)
  have e2 := e 9 (by decide)
  simp at e1 e2
  rw [e1, e2]
  by_cases h : c.toNat = 32
  · simp [h]
  · by_cases h2 : c.toNat = 9
    · simp [h2]
    · have h3 : ¬ ((c.toNat : Int) = 32) := by omega
      have h4 : ¬ ((c.toNat : Int) = 9) := by omega
      simp [h, h2, h3, h4]
def isFoldB (s : ByteArray) (i : Nat) : Bool := byteAt s i == 32 && !blankB (byteAt s (i - 1)) && !blankB (byteAt s (i + 1))
set_option maxRecDepth 100000 in
set_option maxHeartbeats 1000000 in
theorem isFold_calls (s : ByteArray) (i b : Nat) (w : World) (hs : s.size ≤ 1099511627776) (hb : w.cell? ⟨b, 0, none⟩ = some (.string s)) (h1 : 1 ≤ i) (h2 : i + 1 < s.size) :
    Calls Tryz.prog 96 #[.int .i64 i, .pointer (some ⟨b, 0, none⟩)] w fun e w' => e = .returned (.bool (isFoldB s i)) ∧ Drawn0 w w' := by
  have k0 := byteAt_get s i (by omega)
  have k1 := byteAt_get s (i - 1) (by omega)
  have k2 := byteAt_get s (i + 1) (by omega)
  have j1 : ((i : Int) - 1).toNat = i - 1 := by omega
  have j2 : (0 : Int) ≤ (i : Int) - 1 := by omega
  have j3 : ((i : Int) + 1).toNat = i + 1 := by omega
  have j4 : (0 : Int) ≤ (i : Int) + 1 := by omega
  by_cases c1 : byteAt s i = 32
  · have hb1 : (((byteAt s i).toNat : Int) == 32) = true := by rw [c1]; rfl
    have B1 := Lib.hid (blank_at (byteAt s (i - 1)))
    by_cases c2 : blankB (byteAt s (i - 1)) = true
    · have E := Lib.hid (show isFoldB s i = false by simp [isFoldB, c2])
      have C2 := Lib.hid c2
      clear c1 c2 k2
      go_enter Tryz.func96, Tryz.ntmps96
      go_wp2_with fail
      refine (header_blank.calls _ _ _ B1.out).mono ?_
      rintro e w1 ⟨rfl, ⟨n, rfl⟩⟩
      rw [C2.out]
      go_wp2_with fail
      go_ret
      exact ⟨by rw [E.out]; rfl, ⟨n, rfl⟩⟩
    · have c2' : blankB (byteAt s (i - 1)) = false := by simpa using c2
      have B2 := Lib.hid (blank_at (byteAt s (i + 1)))
      have E := Lib.hid (show isFoldB s i = !blankB (byteAt s (i + 1)) by simp [isFoldB, c1, c2'])
      have C2 := Lib.hid c2'
      clear c1 c2 c2'
      go_enter Tryz.func96, Tryz.ntmps96
      go_wp2_with fail
      refine (header_blank.calls _ _ _ B1.out).mono ?_
      rintro e w1 ⟨rfl, ⟨n, rfl⟩⟩
      rw [C2.out]
      go_wp2_with fail
      refine (header_blank.calls _ _ _ B2.out).mono ?_
      rintro e w2 ⟨rfl, ⟨m, rfl⟩⟩
      go_wp2_with fail
      go_ret
      exact ⟨by rw [E.out]; rfl, ⟨n + m, rfl⟩⟩
  · have hne : ((byteAt s i).toNat : Int) ≠ 32 := fun h => c1 (by
      have : (byteAt s i).toNat = 32 := by omega
      exact UInt8.toNat_inj.1 (by simpa using this))
    have hb1 : (((byteAt s i).toNat : Int) == 32) = false := by simpa using hne
    have E := Lib.hid (show isFoldB s i = false by simp [isFoldB, c1])
    clear c1 hne k1 k2
    go_enter Tryz.func96, Tryz.ntmps96
    go_wp2_with fail
    go_ret
    exact ⟨by rw [E.out]; rfl, Drawn0.refl _⟩
def downTo (p : Nat → Bool) (lo : Nat) : Nat → Nat
  | 0 => 0
  | n + 1 => if n + 1 ≤ lo then 0 else if p (n + 1) then n + 1 else downTo p lo n
def upTo (p : Nat → Bool) : Nat → Nat → Nat
  | _, 0 => 0
  | i, f + 1 => if p i then i else upTo p (i + 1) f
def foldAtS (s : ByteArray) (bound : Nat) : Nat :=
  let last := min 998 (s.size - 2)
  let d := downTo (isFoldB s) bound (min 78 last)
  if d = 0 then upTo (isFoldB s) (max 78 bound + 1) (last - max 78 bound) else d
theorem downTo_low (p : Nat → Bool) (lo n : Nat) (h : n ≤ lo) : downTo p lo n = 0 := by
  cases n with
  | zero => rfl
  | succ n => unfold downTo; rw [if_pos h]
theorem downTo_yes (p : Nat → Bool) (lo n : Nat) (h : lo < n) (hp : p n = true) : downTo p lo n = n := by
  cases n with
  | zero => omega
  | succ n => unfold downTo; rw [if_neg (by omega), if_pos hp]
theorem downTo_no (p : Nat → Bool) (lo n : Nat) (h : lo < n) (hp : p n = false) : downTo p lo n = downTo p lo (n - 1) := by
  cases n with
  | zero => omega
  | succ n =>
    conv => lhs; unfold downTo
    rw [if_neg (by omega), if_neg (by simp [hp])]
    rfl
theorem foldAtS_down (s : ByteArray) (bound n L M : Nat) (hL : L = min 998 (s.size - 2)) (hM : min 78 L = M) (h : downTo (isFoldB s) bound M = n) (hn : n ≠ 0) : foldAtS s bound = n := by
  unfold foldAtS
  simp only
  rw [← hL, hM, h, if_neg hn]
theorem foldAtS_up (s : ByteArray) (bound L M : Nat) (hL : L = min 998 (s.size - 2)) (hM : min 78 L = M) (h : downTo (isFoldB s) bound M = 0) : foldAtS s bound = upTo (isFoldB s) (max 78 bound + 1) (L - max 78 bound) := by
  unfold foldAtS
  simp only
  rw [← hL, hM, h, if_pos rfl]
theorem upTo_yes (p : Nat → Bool) (i L : Nat) (h : i ≤ L) (hp : p i = true) : upTo p i (L + 1 - i) = i := by
  rw [show L + 1 - i = (L - i) + 1 from by omega]
  unfold upTo
  rw [if_pos hp]
theorem upTo_no (p : Nat → Bool) (i L : Nat) (h : i ≤ L) (hp : p i = false) : upTo p i (L + 1 - i) = upTo p (i + 1) (L + 1 - (i + 1)) := by
  rw [show L + 1 - i = (L + 1 - (i + 1)) + 1 from by omega]
  conv => lhs; unfold upTo
  rw [if_neg (by simp [hp])]
theorem upTo_end (p : Nat → Bool) (i L : Nat) (h : L < i) : upTo p i (L + 1 - i) = 0 := by
  rw [show L + 1 - i = 0 from by omega]
  rfl
theorem drawn_trans {a b c : World} (h : Drawn0 a b) (k : Drawn0 b c) : Drawn0 a c := by
  obtain ⟨n, rfl⟩ := h
  obtain ⟨m, rfl⟩ := k
  exact ⟨n + m, World.drewN_drewN ..⟩
theorem drawn_below {a b : World} (h : Drawn0 a b) {B : Nat} : Below B a b := by
  obtain ⟨n, rfl⟩ := h
  exact pw_below_drewN (Below.refl _ _) n
theorem drawn_cell {a b : World} (h : Drawn0 a b) (p : Addr) : b.cell? p = a.cell? p := by
  obtain ⟨n, rfl⟩ := h
  rfl
set_option maxRecDepth 100000 in
set_option maxHeartbeats 2000000 in
theorem foldAt_calls (s : ByteArray) (bound : Nat) (w : World) (hs : s.size ≤ 1099511627776) (h78 : 78 < s.size) (hb : bound ≤ 1000) :
    Calls Tryz.prog 84 #[.string s, .int .i64 bound] w fun e w' => e = .returned (.int .i64 (foldAtS s bound)) ∧ Below w.heap.size w w' := by
  obtain ⟨L, hL⟩ : ∃ L, L = min 998 (s.size - 2) := ⟨_, rfl⟩
  have e1 : min (998 : Int) ((s.size : Int) - 2) = (L : Int) := by omega
  have e2 : min (78 : Int) (L : Int) = ((min 78 L : Nat) : Int) := by omega
  have l1 : 77 ≤ L := by omega
  have l2 : L + 1 < s.size := by omega
  have l3 : L ≤ 998 := by omega
  have m1 : min 78 L ≤ L := by omega
  have m2 : 77 ≤ min 78 L := by omega
  have E1 := Lib.hid e1
  have E2 := Lib.hid e2
  have HL := Lib.hid hL
  clear e1 e2 hL
  obtain ⟨W, hW⟩ : ∃ W, W = w.alloc (Obj.cells #[Value.string s] 9) := ⟨_, rfl⟩
  have hcell : W.cell? ⟨w.heap.size, 0, none⟩ = some (.string s) := by rw [hW]; simp
  have hBW : Below w.heap.size w W := by rw [hW]; exact (Below.refl _ _).alloc (Nat.le_refl _) _
  have HW := Aside0.mk hW
  clear hW
  go_enter Tryz.func84, Tryz.ntmps84
  go_wp2_with fail
  rw [E1.out, E2.out, ← HW.out]
  generalize hM : min 78 L = M at m1 m2 ⊢
  have HM := Lib.hid hM
  clear hM
  go_loopw [7] (fun v wr => ∃ n : Nat, n ≤ M ∧ v = .int .i64 n ∧ Aside0 (downTo (isFoldB s) bound M = downTo (isFoldB s) bound n) ∧ Drawn0 W wr) (fun v _ => (intOf v).toNat)
  case atStart => exact ⟨M, Nat.le_refl _, rfl, ⟨rfl⟩, Drawn0.refl _⟩
  case round =>
    obtain ⟨n, hn, rfl, hd, hdr⟩ := hrel
    by_cases hlt : bound < n
    · have hc := (drawn_cell hdr ⟨w.heap.size, 0, none⟩).trans hcell
      have hif := isFold_calls s n w.heap.size wr hs hc (by omega) (by omega)
      have HIF := Aside0.mk hif
      clear hif
      by_cases hp : isFoldB s n = true
      · have HP := Lib.hid hp
        have HX := Lib.hid (downTo_yes (isFoldB s) bound n hlt hp)
        clear hp
        go_wp2_with fail
        refine (HIF.out).mono ?_
        rintro e w2 ⟨rfl, hd2⟩
        rw [HP.out]
        go_wp2_with fail
        go_ret
        have hf := foldAtS_down s bound n L M HL.out HM.out (hd.out.trans HX.out) (by omega)
        exact ⟨by rw [hf]; rfl, hBW.trans (drawn_below (drawn_trans hdr hd2))⟩
      · have hp' : isFoldB s n = false := by simpa using hp
        have HP := Lib.hid hp'
        have HX := Lib.hid (downTo_no (isFoldB s) bound n hlt hp')
        clear hp hp'
        go_wp2_with fail
        refine (HIF.out).mono ?_
        rintro e w2 ⟨rfl, hd2⟩
        rw [HP.out]
        go_wp2_with fail
        go_roundw
        case rel => exact ⟨n - 1, by omega, congrArg (Value.int .i64) (by omega), ⟨hd.out.trans HX.out⟩, drawn_trans hdr hd2⟩
        case measure => simp [intOf]; omega
    · have hz := hd.out.trans (downTo_low (isFoldB s) bound n (by omega))
      have HF := Lib.hid (foldAtS_up s bound L M HL.out HM.out hz)
      obtain ⟨mx, hmx⟩ : ∃ mx, mx = max 78 bound := ⟨_, rfl⟩
      have e3 : max (78 : Int) (bound : Int) = (mx : Int) := by omega
      have E3 := Lib.hid e3
      have mx1 : 78 ≤ mx := by omega
      have mx2 : mx ≤ 1000 := by omega
      rw [← hmx] at HF
      clear hmx e3 hz hd
      go_wp2_with fail
      rw [E3.out]
      obtain ⟨w4, hw4⟩ : ∃ w4 : World, w4 = wr := ⟨_, rfl⟩
      subst hw4
      go_loopw [8] (fun v wr => ∃ i : Nat, mx + 1 ≤ i ∧ i ≤ max (L + 1) (mx + 1) ∧ v = .int .i64 i ∧ Aside0 (upTo (isFoldB s) (mx + 1) (L - mx) = upTo (isFoldB s) i (L + 1 - i)) ∧ Drawn0 W wr) (fun v _ => L + 1 - (intOf v).toNat)
      case atStart => exact ⟨mx + 1, Nat.le_refl _, by omega, by go_num, ⟨by rw [show L + 1 - (mx + 1) = L - mx from by omega]⟩, hdr⟩
      case round =>
        clear hdr
        obtain ⟨i, hi1, hi2, rfl, hd, hdr⟩ := hrel
        by_cases hle : i ≤ L
        · have hc := (drawn_cell hdr ⟨w.heap.size, 0, none⟩).trans hcell
          have hif := isFold_calls s i w.heap.size wr hs hc (by omega) (by omega)
          have HIF := Aside0.mk hif
          clear hif
          by_cases hp : isFoldB s i = true
          · have HP := Lib.hid hp
            have HX := Lib.hid (upTo_yes (isFoldB s) i L hle hp)
            clear hp
            go_wp2_with fail
            refine (HIF.out).mono ?_
            rintro e w2 ⟨rfl, hd2⟩
            rw [HP.out]
            go_wp2_with fail
            go_ret
            exact ⟨by rw [HF.out, hd.out, HX.out]; rfl, hBW.trans (drawn_below (drawn_trans hdr hd2))⟩
          · have hp' : isFoldB s i = false := by simpa using hp
            have HP := Lib.hid hp'
            have HX := Lib.hid (upTo_no (isFoldB s) i L hle hp')
            clear hp hp'
            go_wp2_with fail
            refine (HIF.out).mono ?_
            rintro e w2 ⟨rfl, hd2⟩
            rw [HP.out]
            go_wp2_with fail
            go_roundw
            case rel => exact ⟨i + 1, by omega, by omega, by go_num, ⟨hd.out.trans HX.out⟩, drawn_trans hdr hd2⟩
            case measure => simp [intOf]; omega
        · have HX := Lib.hid (upTo_end (isFoldB s) i L (by omega))
          go_wp2_with fail
          go_ret
          exact ⟨by rw [HF.out, hd.out, HX.out]; rfl, hBW.trans (drawn_below hdr)⟩
end Go.Proofs.YtieompfmhnpnaaaGreat.H
end
section
namespace Go.Proofs.YtieompfmhnpnaaaGreat.H
open Go.RowKit Go.Proofs.YtieompfmhnpnaaaGreatW.PrintWords Go.Proofs.YtieompfmhnpnaaaGreatW.PrintLast Go.Proofs.YtieompfmhnpnaaaGreatW.PrintMore
set_option linter.unusedVariables false
set_option linter.unusedSimpArgs false
abbrev bl (s : ByteArray) : List UInt8 := s.data.toList
abbrev mkB (l : List UInt8) : ByteArray := ⟨l.toArray⟩
theorem bl_mkB (l : List UInt8) : bl (mkB l) = l := rfl
theorem mkB_bl (s : ByteArray) : mkB (bl s) = s := rfl
theorem bl_length (s : ByteArray) : (bl s).length = s.size := by simp
theorem mkB_size (l : List UInt8) : (mkB l).size = l.length := by simp [ByteArray.size]
theorem bl_inj {s t : ByteArray} (h : bl s = bl t) : s = t := by rw [← mkB_bl s, ← mkB_bl t, h]
theorem toList_bl (s : ByteArray) : s.toList = bl s := Lib.toList_data s
theorem bl_append (s t : ByteArray) : bl (s ++ t) = bl s ++ bl t := by simp [bl]
theorem bl_extract (s : ByteArray) (i j : Nat) : bl (s.extract i j) = ((bl s).take j).drop i := by
  simp [bl]
  rw [List.drop_take]
theorem ev_yes {α : Type} {c : Prop} [Decidable c] {a b : Nat → Option α} {r : α} (h : c) (k : Ev a r) : Ev (fun n => if c then a n else b n) r := by
  refine Ev.congr (fun n => ?_) k
  rw [if_pos h]
theorem ev_no {α : Type} {c : Prop} [Decidable c] {a b : Nat → Option α} {r : α} (h : ¬ c) (k : Ev b r) : Ev (fun n => if c then a n else b n) r := by
  refine Ev.congr (fun n => ?_) k
  rw [if_neg h]
theorem ev_done {α : Type} {a r : α} (h : a = r) : Ev (fun _ => some a) r := by
  rw [h]
  exact Ev.now r
theorem bt_byteAt (s : ByteArray) (i : Nat) (h : i < s.size) : bt s (i : Int) = ((byteAt s i).toNat : Int) := by
  rw [← bt_at s i (by simpa using h), byteAt_get s _ (by simpa using h)]
  rfl
theorem byteAt_list (s : ByteArray) (i : Nat) (h : i < s.size) : (bl s)[i]? = some (byteAt s i) := by
  unfold byteAt
  rw [List.getElem?_eq_getElem (by rw [bl_length]; exact h), List.getD_eq_getElem?_getD, List.getElem?_eq_getElem (by rw [bl_length]; exact h)]
  rfl
theorem drop_byteAt (s : ByteArray) (i : Nat) (h : i < s.size) : (bl s).drop i = byteAt s i :: (bl s).drop (i + 1) := by
  have hl := bl_length s
  rw [List.drop_eq_getElem_cons (by omega)]
  have := byteAt_list s i h
  rw [List.getElem?_eq_getElem (by omega)] at this
  rw [Option.some.inj this]
theorem take_byteAt (s : ByteArray) (i : Nat) (h : i < s.size) : (bl s).take (i + 1) = (bl s).take i ++ [byteAt s i] := by
  have hl := bl_length s
  rw [List.take_succ_eq_append_getElem (by omega)]
  have := byteAt_list s i h
  rw [List.getElem?_eq_getElem (by omega)] at this
  rw [Option.some.inj this]
theorem wrap_up (i : Nat) (h : i < 4611686018427387904) : wrap64 ((i : Int) + 1) = ((i + 1 : Nat) : Int) := by
  unfold wrap64; omega
theorem wrap_down (i : Nat) (h0 : 0 < i) (h : i < 4611686018427387904) : wrap64 ((i : Int) - 1) = ((i - 1 : Nat) : Int) := by
  unfold wrap64; omega
def wsB (c : UInt8) : Bool := c == 9 || c == 10 || c == 13 || c == 32
theorem u8_eq (c : UInt8) (n : Nat) (hn : n < 256) : (c == UInt8.ofNat n) = decide ((c.toNat : Int) = (n : Int)) := by
  rw [Bool.eq_iff_iff]
  simp
  constructor
  · rintro rfl; simp; omega
  · intro h
    have : c.toNat = n := by omega
    rw [← this]; simp
theorem white_at (c : UInt8) : text_white.f (c.toNat : Int) = some (wsB c) := by
  unfold text_white.f wsB
  have e9 := u8_eq c 9 (by decide)
  have e10 := u8_eq c 10 (by decide)
  have e13 := u8_eq c 13 (by decide)
  have e32 := u8_eq c 32 (by decide)
  simp at e9 e10 e13 e32
  rw [e9, e10, e13, e32]
  by_cases h9 : (c.toNat : Int) = 9
  · simp [h9]
  · by_cases h10 : (c.toNat : Int) = 10
    · simp [h10]
    · by_cases h13 : (c.toNat : Int) = 13
      · simp [h13]
      · rw [if_neg h9, if_neg h10, if_neg h13]
        have g9 : ¬ c.toNat = 9 := by omega
        have g10 : ¬ c.toNat = 10 := by omega
        have g13 : ¬ c.toNat = 13 := by omega
        simp [g9, g10, g13]
        rw [Bool.eq_iff_iff]
        simp
        omega
def rtrim (l : List UInt8) : List UInt8 := (l.reverse.dropWhile wsB).reverse
theorem rtrim_snoc (l : List UInt8) (c : UInt8) : rtrim (l ++ [c]) = if wsB c then rtrim l else l ++ [c] := by
  unfold rtrim
  rw [List.reverse_append]
  simp [List.dropWhile_cons]
  split <;> simp
theorem rtrim_nil : rtrim [] = [] := rfl
def trimL (l : List UInt8) : List UInt8 := rtrim (l.dropWhile wsB)
def trimS (s : ByteArray) : ByteArray := mkB (trimL (bl s))
theorem trim_l1 (s : ByteArray) (hs : s.size ≤ 1099511627776) (i : Nat) : ∀ (n j : Nat), i ≤ j → j ≤ s.size → j - i = n →
    Ev (fun k => text_Trim.l1 k s (i : Int) (j : Int)) (mkB (rtrim (((bl s).take j).drop i)))
  | 0, j, hi, hj, hn => by
    obtain rfl : i = j := by omega
    refine Ev.step (fun k => by simp only [text_Trim.l1]; rfl) ?_
    refine ev_no (by omega) ?_
    refine ev_yes (by omega) ?_
    refine ev_yes (by omega) ?_
    refine ev_yes (by omega) ?_
    have : ((bl s).take i).drop i = [] := by simp
    rw [this, rtrim_nil]
    refine ev_done ?_
    apply bl_inj
    rw [bl_extract]
    simp
  | n + 1, j, hi, hj, hn => by
    have hlt : i < j := by omega
    have hw := wrap_down j (by omega) (by omega)
    refine Ev.step (fun k => by simp only [text_Trim.l1]; rfl) ?_
    have h1 : (i : Int) < (j : Int) := by omega
    have h2 : 0 ≤ ((j - 1 : Nat) : Int) := by omega
    have h3 : ((j - 1 : Nat) : Int) < (s.size : Int) := by omega
    have hb := bt_byteAt s (j - 1) (by omega)
    have ht := take_byteAt s (j - 1) (by omega)
    rw [show j - 1 + 1 = j from by omega] at ht
    have hd : ((bl s).take j).drop i = ((bl s).take (j - 1)).drop i ++ [byteAt s (j - 1)] := by
      rw [ht, List.drop_append_of_le_length (by rw [List.length_take, bl_length]; omega)]
    refine ev_yes h1 ?_
    simp only [hw]
    refine ev_yes h2 (ev_yes h3 ?_)
    simp only [hb, white_at, Option.bind_some]
    rw [hd, rtrim_snoc]
    by_cases hws : wsB (byteAt s (j - 1)) = true
    · rw [hws]
      exact ev_yes rfl (trim_l1 s hs i n (j - 1) (by omega) (by omega) (by omega))
    · have hws' : wsB (byteAt s (j - 1)) = false := by simpa using hws
      rw [hws']
      refine ev_no (by decide) ?_
      refine ev_yes (by omega) (ev_yes (by omega) (ev_yes (by omega) ?_))
      refine ev_done ?_
      apply bl_inj
      rw [bl_extract, if_neg (by decide), bl_mkB, ← hd]
      simp
theorem trim_l0 (s : ByteArray) (hs : s.size ≤ 1099511627776) : ∀ (n i : Nat), i + n = s.size →
    Ev (fun k => text_Trim.l0 k s (i : Int) (s.size : Int)) (mkB (trimL ((bl s).drop i)))
  | 0, i, hi => by
    have hl := bl_length s
    refine Ev.step (fun k => by simp only [text_Trim.l0]; rfl) ?_
    refine ev_no (by omega) ?_
    refine Ev.step (fun k => by simp only [text_Trim.j1]; rfl) ?_
    have := trim_l1 s hs i 0 s.size (by omega) (by omega) (by omega)
    have e : (bl s).drop i = [] := List.drop_of_length_le (by omega)
    rw [e]
    rw [List.take_of_length_le (by omega), e] at this
    exact this
  | n + 1, i, hi => by
    have hl := bl_length s
    refine Ev.step (fun k => by simp only [text_Trim.l0]; rfl) ?_
    have hb := bt_byteAt s i (by omega)
    refine ev_yes (by omega) ?_
    refine ev_yes (by omega) ?_
    refine ev_yes (by omega) ?_
    simp only [hb, white_at, Option.bind_some]
    rw [drop_byteAt s i (by omega)]
    by_cases hws : wsB (byteAt s i) = true
    · simp only [hws, if_true]
      have e : trimL (byteAt s i :: (bl s).drop (i + 1)) = trimL ((bl s).drop (i + 1)) := by
        unfold trimL
        rw [List.dropWhile_cons_of_pos hws]
      rw [e, wrap_up i (by omega)]
      exact trim_l0 s hs n (i + 1) (by omega)
    · simp only [hws, if_false]
      refine Ev.step (fun k => by simp only [text_Trim.j1]; rfl) ?_
      have := trim_l1 s hs i (s.size - i) s.size (by omega) (by omega) (by omega)
      rw [List.take_of_length_le (by omega), drop_byteAt s i (by omega)] at this
      unfold trimL
      rw [List.dropWhile_cons_of_neg hws]
      exact this
theorem trim_ev (s : ByteArray) (hs : s.size ≤ 1099511627776) : Ev (fun k => text_Trim.f k s) (trimS s) := by
  have := trim_l0 s hs s.size 0 (by omega)
  simpa [text_Trim.f, trimS] using this
theorem trim_size (s : ByteArray) : (trimS s).size ≤ s.size := by
  unfold trimS
  rw [mkB_size]
  have h1 : (trimL (bl s)).length ≤ (bl s).length := by
    unfold trimL rtrim
    rw [List.length_reverse]
    refine Nat.le_trans (List.dropWhile_suffix _).length_le ?_
    rw [List.length_reverse]
    exact (List.dropWhile_suffix _).length_le
  rw [bl_length] at h1
  exact h1
def visB (c : UInt8) : Bool := 33 ≤ c.toNat && c.toNat ≤ 126
theorem visible_at (c : UInt8) : header_visible.f (c.toNat : Int) = some (visB c) := by
  unfold header_visible.f visB
  by_cases h : 33 ≤ c.toNat
  · rw [if_pos (by omega)]
    simp [h]
    omega
  · rw [if_neg (by omega)]
    simp [h]
def isNameB (s : ByteArray) : Bool := 1 ≤ s.size && s.size ≤ 200 && (bl s).all (fun c => visB c && c != 58)
theorem isName_l0 (s : ByteArray) (hs : s.size ≤ 1099511627776) : ∀ (n i : Nat), i + n = s.size →
    Ev (fun k => header_isName.l0 k s (s.size : Int) (i : Int)) (((bl s).drop i).all (fun c => visB c && c != 58))
  | 0, i, hi => by
    have hl := bl_length s
    refine Ev.step (fun k => by simp only [header_isName.l0]; rfl) ?_
    refine ev_no (by omega) ?_
    exact ev_done (by rw [List.drop_of_length_le (by omega)]; rfl)
  | n + 1, i, hi => by
    refine Ev.step (fun k => by simp only [header_isName.l0]; rfl) ?_
    have hb := bt_byteAt s i (by omega)
    refine ev_yes (by omega) ?_
    refine ev_yes (by omega) ?_
    refine ev_yes (by omega) ?_
    simp only [hb, visible_at, Option.bind_some]
    rw [drop_byteAt s i (by omega), List.all_cons]
    have e58 := u8_eq (byteAt s i) 58 (by decide)
    simp at e58
    by_cases hv : visB (byteAt s i) = true
    · simp only [hv, if_true, Bool.true_and]
      by_cases h58 : ((byteAt s i).toNat : Int) = 58
      · have h58' : (byteAt s i).toNat = 58 := by omega
        have h2 : (byteAt s i != 58) = false := by
          rw [bne_eq_false_iff_eq]
          exact UInt8.toNat_inj.1 (by simpa using h58')
        rw [h2]
        simp only [if_pos h58, Bool.false_and]
        exact Ev.now _
      · have h2 : (byteAt s i != 58) = true := by
          rw [bne_iff_ne]
          intro h
          rw [h] at h58
          exact h58 rfl
        rw [h2]
        simp only [Bool.true_and]
        refine ev_no h58 ?_
        rw [wrap_up i (by omega)]
        exact isName_l0 s hs n (i + 1) (by omega)
    · have hv' : visB (byteAt s i) = false := by simpa using hv
      simp only [hv', Bool.false_and]
      exact Ev.now _
theorem isName_ev (s : ByteArray) (hs : s.size ≤ 1099511627776) : Ev (fun k => header_isName.f k s) (isNameB s) := by
  unfold header_isName.f isNameB
  by_cases h1 : s.size < 1
  · simp only [show ((s.size : Int) < 1) from by omega, if_true]
    refine Ev.step (fun k => by simp only [header_isName.j0]; rfl) ?_
    have : decide (1 ≤ s.size) = false := by simpa using h1
    simp only [if_true, this, Bool.false_and]
    exact Ev.now _
  · simp only [show ¬ ((s.size : Int) < 1) from by omega, if_false]
    refine Ev.step (fun k => by simp only [header_isName.j0]; rfl) ?_
    by_cases h2 : s.size > 200
    · have e : decide ((s.size : Int) > 200) = true := by simp; omega
      have e2 : decide (s.size ≤ 200) = false := by simp; omega
      simp only [e, if_true, e2, Bool.and_false, Bool.false_and]
      exact Ev.now _
    · have e : decide ((s.size : Int) > 200) = false := by simp; omega
      have e2 : decide (s.size ≤ 200) = true := by simp; omega
      have e1 : decide (1 ≤ s.size) = true := by simp; omega
      simp only [e, e1, e2, Bool.and_true, Bool.true_and]
      have := isName_l0 s hs s.size 0 (by omega)
      simpa using this
end Go.Proofs.YtieompfmhnpnaaaGreat.H
end
section
namespace Go.Proofs.YtieompfmhnpnaaaGreat.H
open Go.RowKit Go.Proofs.YtieompfmhnpnaaaGreatW.PrintWords Go.Proofs.YtieompfmhnpnaaaGreatW.PrintLast Go.Proofs.YtieompfmhnpnaaaGreatW.PrintMore
set_option linter.unusedVariables false
set_option linter.unusedSimpArgs false
structure FrameX (ex : Nat → Prop) (W W' : World) : Prop where
  os : W'.os = W.os
  tape : W'.tape = W.tape
  output : W'.output = W.output
  size : W.heap.size ≤ W'.heap.size
  block : ∀ i, i < W.heap.size → ¬ ex i → W'.heap[i]? = W.heap[i]?
theorem FrameX.refl (ex : Nat → Prop) (W : World) : FrameX ex W W := ⟨rfl, rfl, rfl, Nat.le_refl _, fun _ _ _ => rfl⟩
theorem FrameX.trans {ex : Nat → Prop} {a b c : World} (h : FrameX ex a b) (k : FrameX ex b c) : FrameX ex a c :=
  ⟨k.os.trans h.os, k.tape.trans h.tape, k.output.trans h.output, Nat.le_trans h.size k.size, fun i hi he => (k.block i (Nat.lt_of_lt_of_le hi h.size) he).trans (h.block i hi he)⟩
theorem FrameX.of_below {ex : Nat → Prop} {a b : World} (h : Below a.heap.size a b) : FrameX ex a b := ⟨h.os, h.tape, h.output, h.size, fun i hi _ => h.block i hi⟩
theorem FrameX.imp {ex ex' : Nat → Prop} {a b : World} (h : FrameX ex a b) (hi : ∀ i, i < a.heap.size → ex i → ex' i) : FrameX ex' a b := ⟨h.os, h.tape, h.output, h.size, fun i hl he => h.block i hl (fun e => he (hi i hl e))⟩
theorem FrameX.setCell {ex : Nat → Prop} {a b : World} (h : FrameX ex a b) (p : Addr) (hp : ex p.block) (v : Value) : FrameX ex a (b.setCell p v) :=
  h.trans ⟨rfl, rfl, rfl, by simp [World.setCell], fun i _ he => Below.heap_setCell _ _ _ _ (fun e => he (e ▸ hp))⟩
theorem FrameX.drewN {ex : Nat → Prop} {a b : World} (h : FrameX ex a b) (n : Nat) : FrameX ex a (b.drewN n) := ⟨h.os, h.tape, h.output, h.size, h.block⟩
theorem FrameX.grown {ex : Nat → Prop} {a b c : World} {row : Option Nat} (h : FrameX ex a b) (hg : b.grownBy c row) (hr : ∀ k, row = some k → k < a.heap.size → ex k) : FrameX ex a c :=
  ⟨hg.os.trans h.os, hg.tape.trans h.tape, hg.output.trans h.output, Nat.le_trans h.size hg.size, fun i hi he => (hg.block i (Nat.lt_of_lt_of_le hi h.size) (fun e => he (hr i e.symm hi))).trans (h.block i hi he)⟩
def strVals (l : List ByteArray) : List Value := l.map Value.string
def addV (vs : List ByteArray) (s : ByteArray) : List ByteArray := if (trimS s).size = 0 then vs else vs ++ [trimS s]
set_option maxHeartbeats 1000000 in
set_option maxRecDepth 100000 in
theorem add_calls (n0 b1 : Nat) (vV : Value) (vs : List ByteArray) (s : ByteArray) (W : World) (hb : n0 ≤ b1) (hc : W.heap[b1]? = some (.cells #[vV] 42 (0, 0)))
    (hown : W.ownsRow n0 9 1 vV vs.length (strVals vs)) (hlen : vs.length ≤ 1099511627776) (hs : s.size ≤ 1099511627776) (hn : n0 ≤ W.heap.size) :
    Calls Tryz.prog 59 #[.string s, .pointer (some ⟨b1, 0, none⟩)] W fun e w' => e = .returned (.tuple #[]) ∧ ∃ vV', w'.heap[b1]? = some (.cells #[vV'] 42 (0, 0)) ∧ w'.ownsRow n0 9 1 vV' (addV vs s).length (strVals (addV vs s)) ∧
      (vV'.ownBlock = vV.ownBlock ∨ ∃ b, vV'.ownBlock = some b ∧ W.heap.size ≤ b) ∧ FrameX (fun i => i = b1 ∨ some i = vV.ownBlock) W w' := by
  obtain ⟨i0, hi, hz0, hz1, hz2⟩ := info_parts info9
  obtain ⟨kt, hkt⟩ := (trim_ev s hs).rounds
  have HT := Aside0.mk hkt
  clear hkt
  have hcell : W.cell? ⟨b1, 0, none⟩ = some vV := by simp [World.cell?, hc]
  have hfz : W.frozen? ⟨b1, 0, none⟩ = false := by simp [World.frozen?, hc]
  by_cases hz : (trimS s).size = 0
  · have hve : (trimS s).toList.isEmpty = true := by rw [toList_bl, List.isEmpty_iff_length_eq_zero, bl_length]; exact hz
    have hadd : addV vs s = vs := by unfold addV; rw [if_pos hz]
    have HA := Lib.hid hadd
    have HC := Aside0.mk hc
    clear hadd hz hc
    go_enter Tryz.func59, Tryz.ntmps59
    go_wp2_with fail
    refine (text_Trim.calls kt _ _ _ HT.out).mono ?_
    rintro e w1 ⟨rfl, ⟨n, rfl⟩⟩
    go_wp2_with fail
    go_end0
    rw [HA.out]
    exact ⟨rfl, vV, HC.out, hown, .inl rfl, (FrameX.refl _ W).drewN n⟩
  · have hve : (trimS s).toList.isEmpty = false := by
      rw [toList_bl]
      cases h : bl (trimS s) with
      | nil => exfalso; apply hz; rw [← bl_length, h]; rfl
      | cons _ _ => rfl
    have hadd : addV vs s = vs ++ [trimS s] := by unfold addV; rw [if_neg hz]
    have HA := Lib.hid hadd
    have HC := Aside0.mk hc
    clear hadd hz hc
    go_enter Tryz.func59, Tryz.ntmps59
    go_wp2_with fail
    refine (text_Trim.calls kt _ _ _ HT.out).mono ?_
    rintro e w1 ⟨rfl, ⟨n, rfl⟩⟩
    have hcell2 : ((W.drewN n).alloc (Obj.cells #[Value.string (trimS s)] 9)).cell? ⟨W.heap.size, 0, none⟩ = some (Value.string (trimS s)) := by
      rw [show (⟨W.heap.size, 0, none⟩ : Addr) = ⟨(W.drewN n).heap.size, 0, none⟩ from rfl, World.cell?_alloc_new]
      rfl
    go_wp2_with (at_builtin; refine wpList_append_own_at _ rfl _ _ 42 rfl n0 9 i0 (.string ⟨#[]⟩) 1 16 Tryz.underlying42 hi hz0 hz1 hz2 rfl (by decide) _ _ _ rfl ((pw_own_drewN hown n).alloc _) ⟨W.heap.size, 0, none⟩ 1 1 [.string (trimS s)] rfl rfl ?c1 ?c2 ?c3 ?c4 ?c5 ?_)
    case c1 =>
      intro j u hj
      match j, hj with
      | 0, hj => simp at hj; subst hj; rw [add_plain]; exact hcell2
    case c2 => intro u hu; simp at hu; subst hu; rfl
    case c3 => unfold maxLen; omega
    case c4 => omega
    case c5 => simp; omega
    intro v' w2 hown' hgrow _ hat
    have hb1lt : b1 < W.heap.size := (Array.getElem?_eq_some_iff.1 HC.out).1
    have hne : some b1 ≠ vV.ownBlock := fun e => by
      obtain ⟨cells, hcc⟩ := own_typed hown b1 e.symm
      rw [HC.out] at hcc
      injection hcc with hcc
      injection hcc with _ h2 _
      exact absurd h2 (by decide)
    have hold : w2.heap[b1]? = some (.cells #[vV] 42 (0, 0)) := by
      rw [hgrow.block b1 (by simp; omega) (by simpa using hne)]
      exact (Lib.alloc_old (W.drewN n) _ b1 hb1lt).trans HC.out
    have hcell3 : w2.cell? ⟨b1, 0, none⟩ = some vV := by simp [World.cell?, hold]
    have hfz3 : w2.frozen? ⟨b1, 0, none⟩ = false := by simp [World.frozen?, hold]
    have HO := Aside0.mk hown'
    have HG := Aside0.mk hgrow
    have HL := Aside0.mk hold
    have HAT := Aside0.mk hat
    obtain ⟨ao, n', cap, rfl⟩ : ∃ ao n' cap, v' = .slice ao n' cap := by
      obtain ⟨A, c, e⟩ := own_slice hown'
      exact ⟨_, _, _, e⟩
    clear hown' hgrow hold hcell2 hat
    go_wp2_with fail
    go_end0
    rw [HA.out]
    have hlt2 : b1 < w2.heap.size := (Array.getElem?_eq_some_iff.1 HL.out).1
    refine ⟨rfl, .slice ao n' cap, ?_, ?_, ?_, ?_⟩
    · have := blk_set HL.out 0 (.slice ao n' cap)
      simpa using this
    · have e : strVals (vs ++ [trimS s]) = strVals vs ++ [Value.string (trimS s)] := by simp [strVals]
      rw [e, List.length_append]
      have hne2 : (Value.slice ao n' cap).ownBlock ≠ some b1 := fun e2 => by
        obtain ⟨cells, hcc⟩ := own_typed HO.out b1 e2
        rw [HL.out] at hcc
        injection hcc with hcc
        injection hcc with _ h2 _
        exact absurd h2 (by decide)
      exact HO.out.kept (grownBy_setCell' w2 b1 _) (.inr hne2)
    · rcases HAT.out with h | h
      · exact .inl h
      · exact .inr ⟨_, h, by simp⟩
    · refine FrameX.setCell ?_ ⟨b1, 0, none⟩ (.inl rfl) _
      refine (((FrameX.refl _ W).drewN n).trans (FrameX.of_below ((Below.refl _ _).alloc (Nat.le_refl _) _))).grown HG.out (fun k hk _ => .inr hk.symm)
end Go.Proofs.YtieompfmhnpnaaaGreat.H
namespace Go.Proofs.YtieompfmhnpnaaaGreat.H
open Go.RowKit Go.Proofs.YtieompfmhnpnaaaGreatW.PrintWords Go.Proofs.YtieompfmhnpnaaaGreatW.PrintLast Go.Proofs.YtieompfmhnpnaaaGreatW.PrintMore
set_option linter.unusedVariables false
set_option linter.unusedSimpArgs false
def fieldVals (l : List S35) : List Value := l.flatMap fun f => [.string f.f0, .string f.f1]
theorem fieldVals_length (l : List S35) : (fieldVals l).length = l.length * 2 := by
  induction l with
  | nil => rfl
  | cons x l ih => unfold fieldVals at *; simp at *; omega
theorem fieldVals_snoc (l : List S35) (f : S35) : fieldVals (l ++ [f]) = fieldVals l ++ [.string f.f0, .string f.f1] := by simp [fieldVals]
def joinS (vs : List ByteArray) : ByteArray := mkB (Lib.join (vs.map bl) [32])
theorem join_calls (n0 : Nat) (vV : Value) (vs : List ByteArray) (W : World) (hV : W.ownsRow n0 9 1 vV vs.length (strVals vs)) (hlen : vs.length ≤ 1099511627776) (hj : (joinS vs).size ≤ 140737488355328) :
    Calls Tryz.prog 58 #[vV, .string ⟨#[32]⟩] W fun e w' => e = .returned (.string (joinS vs)) ∧ Below W.heap.size W w' := by
  cases vs with
  | nil =>
    obtain ⟨A, c, rfl⟩ := own_slice hV
    refine (Tryz.strings_Join_none A c ⟨#[32]⟩ W).mono ?_
    rintro e w' ⟨rfl, rfl⟩
    exact ⟨rfl, Below.refl _ _⟩
  | cons x vs =>
    obtain ⟨g, cap, rfl, hg, hn⟩ := hV.form (by simp)
    have hcells : ∀ (j : Nat) y, (x :: vs)[j]? = some y → W.cell? ⟨g, 0 + j, none⟩ = some (.string y) := fun j y hy => by
      have hj2 : j < (x :: vs).length := (List.getElem?_eq_some_iff.1 hy).1
      rw [Nat.zero_add, hV.cellAt j (by omega)]
      unfold strVals
      rw [List.getElem?_map, hy]
      rfl
    refine (Tryz.strings_Join g 0 cap (x :: vs) ⟨#[32]⟩ W hcells ?_ (by omega) ?_ ?_).mono ?_
    · exact World.block_lt_of_cell? W ⟨g, 0 + 0, none⟩ (hcells 0 x rfl)
    · rcases hV.2 with ⟨h, _⟩ | ⟨g', cap', cur, h, _, _, hnc, _⟩
      · cases h
      · injection h with _ _ h3
        omega
    · have := hj
      unfold joinS at this
      rw [mkB_size] at this
      exact this
    · rintro e w' ⟨rfl, hb⟩
      exact ⟨rfl, hb⟩
theorem keep2 {W w w' : World} {p1 p2 : Addr} {v1 v2 : Value} (hb : Below W.heap.size w w') (h : w.cell? p1 = some v1 ∧ w.cell? p2 = some v2) (he : w.heap.size = W.heap.size := by rfl) :
    w'.cell? p1 = some v1 ∧ w'.cell? p2 = some v2 := by
  rw [← he] at hb
  exact ⟨pw_cell_below hb h.1, pw_cell_below hb h.2⟩
theorem keep2s {w : World} {g b0 b1 j : Nat} {v1 v2 u : Value} (h0 : g ≠ b0) (h1 : g ≠ b1) (h : w.cell? ⟨b0, 0, none⟩ = some v1 ∧ w.cell? ⟨b1, 0, none⟩ = some v2) :
    (w.setCell ⟨g, j, none⟩ u).cell? ⟨b0, 0, none⟩ = some v1 ∧ (w.setCell ⟨g, j, none⟩ u).cell? ⟨b1, 0, none⟩ = some v2 :=
  ⟨(World.cell?_setCell_far w ⟨g, j, none⟩ ⟨b0, 0, none⟩ u h0).trans h.1, (World.cell?_setCell_far w ⟨g, j, none⟩ ⟨b1, 0, none⟩ u h1).trans h.2⟩
set_option maxHeartbeats 2000000 in
set_option maxRecDepth 100000 in
theorem finish_calls (n0 b0 b1 : Nat) (vF vV : Value) (fs : List S35) (f : S35) (vs : List ByteArray) (W : World) (hb0 : n0 ≤ b0) (hb1 : n0 ≤ b1) (hc0 : W.heap[b0]? = some (.cells #[vF] 33 (0, 0))) (hc1 : W.heap[b1]? = some (.cells #[vV] 42 (0, 0)))
    (hF : W.ownsRow n0 35 2 vF (fs.length + 1) (fieldVals (fs ++ [f]))) (hV : W.ownsRow n0 9 1 vV vs.length (strVals vs)) (hlen : vs.length ≤ 1099511627776) (hfl : fs.length ≤ 1099511627776) (hj : (joinS vs).size ≤ 140737488355328) (hn : n0 ≤ W.heap.size) :
    Calls Tryz.prog 57 #[.pointer (some ⟨b0, 0, none⟩), .pointer (some ⟨b1, 0, none⟩)] W fun e w' => e = .returned (.tuple #[]) ∧ w'.heap[b0]? = some (.cells #[vF] 33 (0, 0)) ∧ w'.heap[b1]? = some (.cells #[.slice none 0 0] 42 (0, 0)) ∧
      w'.ownsRow n0 35 2 vF (fs.length + 1) (fieldVals (fs ++ [⟨f.f0, joinS vs⟩])) ∧ FrameX (fun i => i = b1 ∨ some i = vF.ownBlock) W w' := by
  obtain ⟨g, cap, rfl, hg, hn2⟩ := hF.form (by omega)
  have hfl2 := fieldVals_length fs
  have htgt : W.cell? ⟨g, fs.length * 2 + 1, none⟩ = some (.string f.f1) := by
    rw [hF.cellAt (fs.length * 2 + 1) (by omega), fieldVals_snoc, List.getElem?_append_right (by omega), hfl2]
    simp
  have hfz := hF.frozenAt (fs.length * 2 + 1)
  have HF := Aside0.mk hF
  clear hF
  generalize hM : fs.length = M at *
  generalize hN : M + 1 = N at *
  have hcell0 : W.cell? ⟨b0, 0, none⟩ = some (.slice (some ⟨g, 0, none⟩) N cap) := by simp [World.cell?, hc0]
  have hcell1 : W.cell? ⟨b1, 0, none⟩ = some vV := by simp [World.cell?, hc1]
  have HC0 := Aside0.mk hc0
  have HC1 := Aside0.mk hc1
  have HM := Lib.hid hM
  have HN := Lib.hid hN
  have q1 : IntKind.i64.wrap ((N : Int) - 1) = (N : Int) - 1 := IntWalk.i64_in _ (by omega)
  have q2 : ((N : Int) - 1).toNat = M := by omega
  have q3 : (0 : Int) ≤ (N : Int) - 1 := by omega
  have q4 : (N : Int) - 1 < (N : Int) := by omega
  have q5 : (0 : Int) < (N : Int) := by omega
  have Q2 := Lib.hid q2
  have q6 : (1 : Int) ≤ (N : Int) := by omega
  have q7 : 0 < N := by omega
  have q8 : 1 ≤ N := by omega
  have hg0 : g ≠ b0 := fun e => by subst e; obtain ⟨cells, hcc⟩ := own_typed HF.out _ rfl; rw [hc0] at hcc; injection hcc with hcc; injection hcc with _ h2 _; exact absurd h2 (by decide)
  have hg1 : g ≠ b1 := fun e => by subst e; obtain ⟨cells, hcc⟩ := own_typed HF.out _ rfl; rw [hc1] at hcc; injection hcc with hcc; injection hcc with _ h2 _; exact absurd h2 (by decide)
  clear hc0 hc1 hM hN hfl2 q2
  go_enter Tryz.func57, Tryz.ntmps57
  go_wp2_with fail
  have q2 := Q2.out
  have hglt : g < W.heap.size := World.block_lt_of_cell? W _ htgt
  go_region_held3 (fun w' => w'.cell? ⟨b0, 0, none⟩ = some (.slice (some ⟨g, 0, none⟩) N cap) ∧ w'.cell? ⟨b1, 0, none⟩ = some vV)
    (first | go_keep | (exact keep2 (by assumption) (by assumption)) | (exact keep2s hg0 hg1 (by assumption)))
    (first
      | (go_at_call 58; refine (join_calls n0 vV vs _ (pw_own_drewN hV _) hlen hj).mono ?_; rintro e w3 ⟨rfl, hb3⟩; have ht3 := (hb3.cell (p := ⟨g, M * 2 + 1, none⟩) hglt).trans htgt; have hf3 := (hb3.frozen (p := ⟨g, M * 2 + 1, none⟩) hglt).trans hfz))
  have hb1lt : b1 < W.heap.size := World.block_lt_of_cell? W _ hcell1
  have HB3 := Aside0.mk hb3
  have hd1 : (w3.setCell ⟨g, M * 2 + 1, none⟩ (.string (joinS vs))).cell? ⟨b1, 0, none⟩ = some vV := (World.cell?_setCell_far _ ⟨g, M * 2 + 1, none⟩ ⟨b1, 0, none⟩ _ hg1).trans ((hb3.cell (p := ⟨b1, 0, none⟩) hb1lt).trans hcell1)
  have hfd : (w3.setCell ⟨g, M * 2 + 1, none⟩ (.string (joinS vs))).frozen? ⟨b1, 0, none⟩ = false := by
    rw [World.frozen?_setCell]
    refine (hb3.frozen (p := ⟨b1, 0, none⟩) hb1lt).trans ?_
    have := HC1.out
    simp [World.frozen?, this]
  clear hb3 ht3 hf3
  go_wp2_with fail
  go_end0
  obtain ⟨w4, hw4⟩ : ∃ w4, w4 = w3.setCell ⟨g, M * 2 + 1, none⟩ (.string (joinS vs)) := ⟨_, rfl⟩
  have hW3 : Below W.heap.size W w3 := (pw_below_drewN (Below.refl _ _) _).trans HB3.out
  have hb0lt : b0 < W.heap.size := World.block_lt_of_cell? W _ hcell0
  have e0 : w4.heap[b0]? = some (.cells #[.slice (some ⟨g, 0, none⟩) N cap] 33 (0, 0)) := by
    rw [hw4]
    exact blk_far ((hW3.block b0 hb0lt).trans HC0.out) (Ne.symm hg0) _
  have e1 : w4.heap[b1]? = some (.cells #[vV] 42 (0, 0)) := by
    rw [hw4]
    exact blk_far ((hW3.block b1 hb1lt).trans HC1.out) (Ne.symm hg1) _
  have h3 : w3.ownsRow n0 35 2 (.slice (some ⟨g, 0, none⟩) N cap) N (fieldVals (fs ++ [f])) := pw_own_below HF.out hW3
  have h4 : w4.ownsRow n0 35 2 (.slice (some ⟨g, 0, none⟩) N cap) N (fieldVals (fs ++ [⟨f.f0, joinS vs⟩])) := by
    have := (h3.stored (M * 2 + 1) (.string (joinS vs))).1
    rw [hw4]
    have e : (fieldVals (fs ++ [f])).set (M * 2 + 1) (.string (joinS vs)) = fieldVals (fs ++ [⟨f.f0, joinS vs⟩]) := by
      have hl := fieldVals_length fs
      rw [HM.out] at hl
      rw [fieldVals_snoc, fieldVals_snoc, List.set_append_right _ _ (by omega), hl]
      simp
    rw [e] at this
    exact this
  have hb01 : b1 ≠ b0 := fun e => by rw [e, e0] at e1; injection e1 with e1; injection e1 with _ h2 _; exact absurd h2 (by decide)
  rw [← hw4]
  refine ⟨rfl, blk_far e0 (Ne.symm hb01) _, ?_, ?_, ?_⟩
  · have := blk_set e1 0 (.slice none 0 0)
    simpa using this
  · exact h4.kept (grownBy_setCell' w4 b1 _) (.inr (by simp [Value.ownBlock]; exact hg1))
  · refine FrameX.setCell ?_ ⟨b1, 0, none⟩ (.inl rfl) _
    rw [hw4]
    exact (FrameX.of_below hW3).setCell ⟨g, M * 2 + 1, none⟩ (.inr rfl) _
set_option maxHeartbeats 2000000 in
set_option maxRecDepth 100000 in
theorem finish_none (n0 b0 b1 : Nat) (vF vV : Value) (W : World) (hc0 : W.heap[b0]? = some (.cells #[vF] 33 (0, 0))) (hc1 : W.heap[b1]? = some (.cells #[vV] 42 (0, 0)))
    (hF : W.ownsRow n0 35 2 vF 0 []) :
    Calls Tryz.prog 57 #[.pointer (some ⟨b0, 0, none⟩), .pointer (some ⟨b1, 0, none⟩)] W fun e w' => e = .returned (.tuple #[]) ∧ w'.heap[b0]? = some (.cells #[vF] 33 (0, 0)) ∧ w'.heap[b1]? = some (.cells #[.slice none 0 0] 42 (0, 0)) ∧
      w'.ownsRow n0 35 2 vF 0 [] ∧ FrameX (fun i => i = b1 ∨ some i = vF.ownBlock) W w' := by
  obtain ⟨A, c, rfl⟩ := own_slice hF
  have hcell0 : W.cell? ⟨b0, 0, none⟩ = some (.slice A 0 c) := by simp [World.cell?, hc0]
  have hcell1 : W.cell? ⟨b1, 0, none⟩ = some vV := by simp [World.cell?, hc1]
  have hfd : W.frozen? ⟨b1, 0, none⟩ = false := by simp [World.frozen?, hc1]
  have hb01 : b1 ≠ b0 := fun e => by rw [e, hc0] at hc1; injection hc1 with e1; injection e1 with _ h2 _; exact absurd h2 (by decide)
  have hne : (Value.slice A 0 c).ownBlock ≠ some b1 := fun e => by
    obtain ⟨cells, hcc⟩ := own_typed hF b1 e
    rw [hc1] at hcc
    injection hcc with hcc
    injection hcc with _ h2 _
    exact absurd h2 (by decide)
  have HC0 := Aside0.mk hc0
  have HC1 := Aside0.mk hc1
  have HF := Aside0.mk hF
  clear hc0 hc1 hF
  go_enter Tryz.func57, Tryz.ntmps57
  go_wp2_with fail
  go_end0
  refine ⟨rfl, blk_far HC0.out (Ne.symm hb01) _, ?_, HF.out.kept (grownBy_setCell' W b1 _) (.inr hne), (FrameX.refl _ W).setCell ⟨b1, 0, none⟩ (.inl rfl) _⟩
  have := blk_set HC1.out 0 (.slice none 0 0)
  simpa using this
end Go.Proofs.YtieompfmhnpnaaaGreat.H
end
section
namespace Go.Proofs.YtieompfmhnpnaaaGreat.H
open Go.RowKit Go.Proofs.YtieompfmhnpnaaaGreatW.PrintWords Go.Proofs.YtieompfmhnpnaaaGreatW.PrintLast Go.Proofs.YtieompfmhnpnaaaGreatW.PrintMore
set_option linter.unusedVariables false
set_option linter.unusedSimpArgs false
attribute [local go_sem] Oper.semAt_some
theorem wide_fn (f : Nat) : Fence.wide.fn f = True := rfl
theorem wide_depth : Fence.wide.depth = none := rfl
theorem wide_fn_r (f l : Nat) : (Fence.wide.inRound l).fn f = True := rfl
theorem wide_depth_r (l : Nat) : (Fence.wide.inRound l).depth = none := rfl
attribute [local go_sem] wide_fn wide_depth wide_fn_r wide_depth_r
structure LineX where
  con : ByteArray
  fr : Nat
  un : Nat
def trimCR (c : ByteArray) : ByteArray := if 1 ≤ c.size ∧ (c.extract (c.size - 1) c.size).toList = [13] then c.extract 0 (c.size - 1) else c
def lineAt (s : ByteArray) (fr : Nat) : LineX :=
  let c := cutAt (s.extract fr s.size) 10
  ⟨trimCR c.1, fr, fr + c.1.size + (if c.2.2 then 1 else 0)⟩
def linesAt (s : ByteArray) : Nat → Nat → List LineX
  | 0, _ => []
  | k + 1, fr => if fr < s.size then lineAt s fr :: linesAt s k (lineAt s fr).un else []
def linesOf (s : ByteArray) : List LineX := linesAt s (s.size + 1) 0
def encLine (x : LineX) : Array Value := #[.agg #[.string x.con, .int .i64 (x.fr : Int), .int .i64 (x.un : Int)]]
theorem trimCR_f (c : ByteArray) (hs : c.size ≤ 1099511627776) : strings_TrimSuffix.f c ⟨#[13]⟩ = some (trimCR c) := by
  unfold strings_TrimSuffix.f stringslite_TrimSuffix.f stringslite_HasSuffix.f
  have e1 : (⟨#[13]⟩ : ByteArray).size = 1 := rfl
  have e2 : (⟨#[13]⟩ : ByteArray).toList = [13] := by rw [Lib.toList_data]
  rw [e1, e2]
  by_cases h : 1 ≤ c.size
  · have hw : wrap64 ((c.size : Int) - ((1 : Nat) : Int)) = ((c.size - 1 : Nat) : Int) := by
      rw [show ((c.size : Int) - ((1 : Nat) : Int)) = ((c.size - 1 : Nat) : Int) by omega]
      exact (i64_w _).symm.trans (IntWalk.i64_in _ (by omega))
    rw [hw]
    have q1 : (c.size : Int) ≥ ((1 : Nat) : Int) := by omega
    have q2 : (0 : Int) ≤ ((c.size - 1 : Nat) : Int) := by omega
    have q3 : ((c.size - 1 : Nat) : Int) ≤ (c.size : Int) := by omega
    simp only [if_pos q1, if_pos q2, if_pos q3, Int.toNat_natCast, Option.bind_some]
    by_cases h2 : (c.extract (c.size - 1) c.size).toList = [13]
    · have e : trimCR c = c.extract 0 (c.size - 1) := if_pos ⟨h, h2⟩
      rw [e, h2]
      rfl
    · have e : trimCR c = c := if_neg (fun h3 => h2 h3.2)
      have e3 : ((c.extract (c.size - 1) c.size).toList == [13]) = false := by simp [h2]
      rw [e, e3]
      rfl
  · have q1 : ¬ (c.size : Int) ≥ ((1 : Nat) : Int) := by omega
    have e : trimCR c = c := if_neg (fun h3 => h h3.1)
    rw [e, if_neg q1]
    rfl
theorem cutAt_size (s : ByteArray) (c : UInt8) : (cutAt s c).1.size + (if (cutAt s c).2.2 then 1 else 0) ≤ s.size ∧ (0 < s.size → 0 < (cutAt s c).1.size + (if (cutAt s c).2.2 then 1 else 0)) := by
  by_cases h : 0 ≤ Lib.indexByte s.data.toList c
  · have e : cutAt s c = (s.extract 0 (Lib.indexByte s.data.toList c).toNat, s.extract ((Lib.indexByte s.data.toList c).toNat + 1) s.size, true) := by
      unfold cutAt; simp [h]
    have hl : s.data.toList.length = s.size := rfl
    have := indexByte_lt s.data.toList c
    rw [e]
    simp
    omega
  · have e : cutAt s c = (s, ⟨#[]⟩, false) := by
      unfold cutAt; simp [h]
    rw [e]
    simp
theorem lineAt_un (s : ByteArray) (fr : Nat) (h : fr < s.size) : fr < (lineAt s fr).un ∧ (lineAt s fr).un ≤ s.size ∧ (lineAt s fr).fr = fr := by
  have hx : (s.extract fr s.size).size = s.size - fr := by simp
  obtain ⟨h1, h2⟩ := cutAt_size (s.extract fr s.size) 10
  refine ⟨?_, ?_, rfl⟩
  · have := h2 (by omega)
    unfold lineAt
    dsimp only
    omega
  · unfold lineAt
    dsimp only
    omega
set_option maxRecDepth 100000 in
set_option maxHeartbeats 2000000 in
theorem lines1_in (n : Nat) (l bs : Nat) (s : ByteArray) (hs : s.size ≤ 1099511627776) (J Jx : List LineX → World → Prop)
    (hY : ∀ pre x W, x ∈ linesOf s → J pre W → pre.length < (linesOf s).length → YieldAt Fence.wide (n - 1) Tryz.prog l (encLine x) W fun e W' =>
      (e = .returned (.bool true) ∧ J (pre ++ [x]) W' ∧ W'.heap[bs]? = W.heap[bs]?) ∨ (e = .returned (.bool false) ∧ Jx (pre ++ [x]) W'))
    (W : World) (hBs : W.heap[bs]? = some (.cells #[.string s] 9 (0, 0))) (h0 : J [] W) (hJd : ∀ pre W k, J pre W → J pre (W.drewN k)) :
    CallsIn Fence.wide n Tryz.prog 86 #[.func (.yield l) #[] #[], .pointer (some ⟨bs, 0, none⟩)] W fun e W' => (∃ v, e = .returned v) ∧
      ((∃ ys, ys = linesOf s ∧ J ys W') ∨ (∃ pre, pre <+: linesOf s ∧ Jx pre W')) := by
  refine callsIn_of_wp Tryz.func86 rfl trivial ?_ rfl
  simp only [Tryz.ntmps86, List.size_toArray, List.length_cons, List.length_nil, Nat.reduceAdd, Nat.reduceSub, Array.replicate_succ, Array.replicate_zero, List.push_toArray, List.append_toArray, List.nil_append, List.cons_append]
  gi_wp2
  gi_loopw [3] (fun i wr => ∃ (k fr : Nat) (pre : List LineX), i = .int .i64 fr ∧ fr ≤ s.size ∧ s.size + 1 ≤ fr + k ∧ linesOf s = pre ++ linesAt s k fr ∧ J pre wr ∧ wr.heap[bs]? = some (.cells #[.string s] 9 (0, 0)))
    (fun i _ => s.size - (intOf i).toNat)
  case atStart => exact ⟨s.size + 1, 0, [], rfl, by omega, by omega, rfl, h0, hBs⟩
  case round =>
    obtain ⟨k, fr, pre, rfl, hfr, hk, hls, hJs, hbs⟩ := hrel
    have hc : wr.cell? ⟨bs, 0, none⟩ = some (.string s) := by simp [World.cell?, hbs]
    by_cases hlt : fr < s.size
    · obtain ⟨k, rfl⟩ : ∃ m, k = m + 1 := ⟨k - 1, by omega⟩
      obtain ⟨hu1, hu2, hu3⟩ := lineAt_un s fr hlt
      have hls2 : linesAt s (k + 1) fr = lineAt s fr :: linesAt s k (lineAt s fr).un := by rw [linesAt, if_pos hlt]
      rw [hls2] at hls
      clear hls2
      have hlen : pre.length < (linesOf s).length := by rw [hls]; simp
      have LS := Aside0.mk hls
      clear hls
      obtain ⟨c, r, b, hcut⟩ : ∃ c r b, cutAt (s.extract fr s.size) 10 = (c, r, b) := ⟨_, _, _, rfl⟩
      have hline : lineAt s fr = ⟨trimCR c, fr, fr + c.size + (if b then 1 else 0)⟩ := by unfold lineAt; rw [hcut]
      rw [hline] at hu1 hu2
      have hx : (s.extract fr s.size).size = s.size - fr := by simp
      have hcf : strings_Cut.f (s.extract fr s.size) ⟨#[10]⟩ = some (c, r, b) := by
        unfold strings_Cut.f
        rw [if_pos ⟨by omega, rfl⟩]
        exact congrArg some hcut
      have hcs : c.size ≤ s.size := by dsimp only at hu2; omega
      have htr := trimCR_f c (by omega)
      have HCF := Aside0.mk hcf
      have HTR := Aside0.mk htr
      have HL := Aside0.mk hline
      clear hcf htr hcut hline
      have hq1 : (fr : Int) < (s.size : Int) := by omega
      have hq3 : (fr : Int) ≤ (s.size : Int) := by omega
      have hq4 : (0 : Int) ≤ (fr : Int) := by omega
      have hq2 : IntKind.i64.wrap ((fr : Int) + (c.size : Int)) = ((fr + c.size : Nat) : Int) := by rw [Int.natCast_add]; exact IntWalk.i64_in _ (by dsimp only at hu2; omega)
      cases b
      all_goals
        try simp only [Bool.false_eq_true, if_false, if_true, Nat.add_zero] at hu1 hu2 HL
        gi_wp2_with (gi_at_call 40; refine (callsIn_wide.2 (strings_Cut.calls _ _ _ _ _ _ HCF.out)).mono ?_; rintro e w' ⟨rfl, ⟨nd, rfl⟩⟩)
        refine (callsIn_wide.2 (strings_TrimSuffix.calls _ _ _ _ HTR.out)).mono ?_
        rintro e w' ⟨rfl, ⟨nd2, rfl⟩⟩
        obtain ⟨fn, tmps, assign, body, hy, hR⟩ := hY pre (lineAt s fr) (wr.drewN (nd + nd2)) (by rw [LS.out]; simp) (hJd _ _ _ hJs) hlen
        rw [HL.out] at hy
        simp only [encLine, Int.natCast_add, Int.natCast_one] at hy
        gi_wp2
        refine hR.mono ?_
        rintro e W3 (⟨rfl, hJ3, hk3⟩ | ⟨rfl, hJx3⟩)
        · gi_wp2
          go_roundw
          case rel =>
            refine ⟨k, (lineAt s fr).un, pre ++ [lineAt s fr], by rw [HL.out]; simp, by rw [HL.out]; exact hu2, by rw [HL.out]; dsimp only; omega, by rw [LS.out]; simp, hJ3, hk3.trans hbs⟩
          case measure => simp [intOf]; omega
        · gi_wp2
          refine bodyPost_ret (results_none rfl _ _ _) rfl ?_
          exact ⟨⟨_, rfl⟩, .inr ⟨_, ⟨linesAt s k (lineAt s fr).un, by rw [LS.out]; simp⟩, hJx3⟩⟩
    · obtain rfl : fr = s.size := by omega
      have e : linesAt s k s.size = [] := by cases k with | zero => rfl | succ k => rw [linesAt, if_neg (by omega)]
      rw [e, List.append_nil] at hls
      gi_wp2
      go_end0
      exact ⟨⟨_, rfl⟩, .inl ⟨_, rfl, hls ▸ hJs⟩⟩
def lineNo (s : ByteArray) (i : Nat) : LineX := (linesOf s).getD i ⟨⟨#[]⟩, 0, 0⟩
theorem lines_stops (n bs : Nat) (s : ByteArray) (hs : s.size ≤ 1099511627776) (w : World) (hb : bs < w.heap.size) (hc : w.heap[bs]? = some (.cells #[.string s] 9 (0, 0))) :
    SeqStopsK Fence.wide n Tryz.prog 86 #[.pointer (some ⟨bs, 0, none⟩)] (fun i : Nat => encLine (lineNo s i)) (fun W W' => W'.heap[bs]? = W.heap[bs]?) (fun xs => xs.map (lineNo s) = linesOf s) (fun pre => pre.map (lineNo s) <+: linesOf s) (linesOf s).length w := fun l J Jx W hW hJ hJx hY h0 => by
  refine (lines1_in n l bs s hs (fun pre W => ∃ is : List Nat, is.map (lineNo s) = pre ∧ J is W) (fun pre W => ∃ is : List Nat, is.map (lineNo s) = pre ∧ Jx is W) ?_ W ((hW.block bs hb).trans hc) ⟨[], rfl, h0⟩ ?_).mono ?_
  · rintro pre x W1 hx ⟨is, rfl, hj⟩ hl
    obtain ⟨i, hi, rfl⟩ := List.getElem_of_mem hx
    have e : lineNo s i = (linesOf s)[i] := by unfold lineNo; rw [List.getD_eq_getElem?_getD, List.getElem?_eq_getElem hi]; rfl
    rw [List.length_map] at hl
    obtain ⟨fn, tmps, assign, body, hy, hR⟩ := hY is i W1 hj hl
    dsimp only at hy
    rw [e] at hy
    refine ⟨fn, tmps, assign, body, hy, hR.mono ?_⟩
    rintro e' W' (⟨rfl, h1, h2⟩ | ⟨rfl, h1⟩)
    · exact .inl ⟨rfl, ⟨is ++ [i], by simp [e], h1⟩, h2⟩
    · exact .inr ⟨rfl, is ++ [i], by simp [e], h1⟩
  · rintro pre W1 k ⟨is, rfl, h⟩
    exact ⟨is, rfl, hJ is W1 _ none h ⟨rfl, rfl, rfl, Nat.le_refl _, fun _ _ _ => rfl⟩ (fun r e => by cases e)⟩
  · rintro e W' ⟨hv, ⟨ys, rfl, is, hi, hj⟩ | ⟨pre, hp, is, rfl, hj⟩⟩
    · exact ⟨hv, .inl ⟨is, hi, hj⟩⟩
    · exact ⟨hv, .inr ⟨is, hp, hj⟩⟩
theorem linesAt_length (s : ByteArray) : ∀ k fr, (linesAt s k fr).length ≤ k
  | 0, fr => by simp [linesAt]
  | k + 1, fr => by
    rw [linesAt]
    split
    · have := linesAt_length s k (lineAt s fr).un
      simp; omega
    · simp
theorem linesAt_con (s : ByteArray) : ∀ k fr, ∀ x ∈ linesAt s k fr, x.con.size ≤ s.size
  | 0, fr => by simp [linesAt]
  | k + 1, fr => by
    rw [linesAt]
    split
    · intro x hx
      rcases List.mem_cons.1 hx with rfl | hx
      · have h1 := cutAt_size (s.extract fr s.size) 10
        have h2 : (s.extract fr s.size).size = s.size - fr := by simp
        show (trimCR (cutAt (s.extract fr s.size) 10).1).size ≤ s.size
        have h3 : ∀ c : ByteArray, (trimCR c).size ≤ c.size := fun c => by
          unfold trimCR
          split
          · simp
          · exact Nat.le_refl _
        have := h3 (cutAt (s.extract fr s.size) 10).1
        omega
      · exact linesAt_con s k _ x hx
    · intro x hx; cases hx
theorem lineNo_con (s : ByteArray) (i : Nat) : (lineNo s i).con.size ≤ s.size := by
  unfold lineNo
  rw [List.getD_eq_getElem?_getD]
  cases h : (linesOf s)[i]? with
  | none => exact Nat.zero_le _
  | some x => exact linesAt_con s _ _ x (List.mem_of_getElem? h)
theorem lines_in (n : Nat) (s : ByteArray) (w : World) :
    CallsIn Fence.wide n Tryz.prog 60 #[.string s] w fun e w' => e = .returned (.func (.func 86) #[] #[.pointer (some ⟨w.heap.size, 0, none⟩)]) ∧ w' = w.alloc (.cells #[.string s] 9) := by
  refine callsIn_of_wp Tryz.func60 rfl trivial ?_ rfl
  simp only [Tryz.ntmps60, List.size_toArray, List.length_cons, List.length_nil, Nat.reduceAdd, Nat.reduceSub, Array.replicate_succ, Array.replicate_zero, List.push_toArray, List.append_toArray, List.nil_append, List.cons_append]
  gi_wp2
  go_ret
  exact ⟨rfl, rfl⟩
end Go.Proofs.YtieompfmhnpnaaaGreat.H
namespace Go.Proofs.YtieompfmhnpnaaaGreat.H
open Go.RowKit Go.Proofs.YtieompfmhnpnaaaGreatW.PrintWords Go.Proofs.YtieompfmhnpnaaaGreatW.PrintLast Go.Proofs.YtieompfmhnpnaaaGreatW.PrintMore
set_option linter.unusedVariables false
set_option linter.unusedSimpArgs false
attribute [local go_sem] Oper.semAt_some
attribute [local go_sem] wide_fn wide_depth wide_fn_r wide_depth_r
def piecesAt (s : ByteArray) : Nat → Nat → Bool → Nat → List ByteArray
  | 0, fr, q, i => [s.extract fr s.size]
  | k + 1, fr, q, i =>
    if i < s.size then
      (if byteAt s i = 92 ∧ q = true then piecesAt s k fr q (i + 2)
       else if byteAt s i = 34 then piecesAt s k fr (!q) (i + 1)
       else if byteAt s i = 59 ∧ q = false then s.extract fr i :: piecesAt s k (i + 1) q (i + 1)
       else piecesAt s k fr q (i + 1))
    else [s.extract fr s.size]
def piecesOf (s : ByteArray) : List ByteArray := piecesAt s (s.size + 1) 0 false 0
theorem piecesAt_end (s : ByteArray) (k fr i : Nat) (q : Bool) (h : s.size ≤ i) : piecesAt s k fr q i = [s.extract fr s.size] := by
  cases k with
  | zero => rfl
  | succ k => rw [piecesAt, if_neg (by omega)]
set_option maxRecDepth 100000 in
set_option maxHeartbeats 2000000 in
theorem pieces1_in (n : Nat) (l bs : Nat) (s : ByteArray) (hs : s.size ≤ 1099511627776) (J Jx : List ByteArray → World → Prop)
    (hY : ∀ pre x W, x ∈ piecesOf s → J pre W → pre.length < (piecesOf s).length → YieldAt Fence.wide (n - 1) Tryz.prog l #[.string x] W fun e W' =>
      (e = .returned (.bool true) ∧ J (pre ++ [x]) W' ∧ W'.heap[bs]? = W.heap[bs]?) ∨ (e = .returned (.bool false) ∧ Jx (pre ++ [x]) W'))
    (W : World) (hBs : W.heap[bs]? = some (.cells #[.string s] 9 (0, 0))) (h0 : J [] W) :
    CallsIn Fence.wide n Tryz.prog 70 #[.func (.yield l) #[] #[], .pointer (some ⟨bs, 0, none⟩)] W fun e W' => (∃ v, e = .returned v) ∧
      ((∃ ys, ys = piecesOf s ∧ J ys W') ∨ (∃ pre, pre <+: piecesOf s ∧ Jx pre W')) := by
  refine callsIn_of_wp Tryz.func70 rfl trivial ?_ rfl
  simp only [Tryz.ntmps70, List.size_toArray, List.length_cons, List.length_nil, Nat.reduceAdd, Nat.reduceSub, Array.replicate_succ, Array.replicate_zero, List.push_toArray, List.append_toArray, List.nil_append, List.cons_append]
  gi_wp2
  gi_loopw [3, 4, 5] (fun a b i wr => ∃ (k fr ix : Nat) (q : Bool) (pre : List ByteArray), a = .int .i64 fr ∧ b = .bool q ∧ i = .int .i64 ix ∧ fr ≤ ix ∧ fr ≤ s.size ∧ ix ≤ s.size + 1 ∧ s.size + 1 ≤ ix + k ∧ piecesOf s = pre ++ piecesAt s k fr q ix ∧ J pre wr ∧ wr.heap[bs]? = some (.cells #[.string s] 9 (0, 0)))
    (fun _ _ i _ => s.size + 2 - (intOf i).toNat)
  case atStart => exact ⟨s.size + 1, 0, 0, false, [], rfl, rfl, rfl, by omega, by omega, by omega, by omega, rfl, h0, hBs⟩
  case round =>
    obtain ⟨k, fr, ix, q, pre, rfl, rfl, rfl, hfi, hfr, hix, hk, hls, hJs, hbs⟩ := hrel
    have hc : wr.cell? ⟨bs, 0, none⟩ = some (.string s) := by simp [World.cell?, hbs]
    by_cases hlt : ix < s.size
    · obtain ⟨k, rfl⟩ : ∃ m, k = m + 1 := ⟨k - 1, by omega⟩
      rw [piecesAt, if_pos hlt] at hls
      have hq1 : (ix : Int) < (s.size : Int) := by omega
      have hq0 : (0 : Int) ≤ (ix : Int) := by omega
      have b256 : (byteAt s ix).toNat < 256 := (byteAt s ix).toNat_lt
      by_cases c92 : byteAt s ix = 92
      · have k0 : ∀ hh, s[ix]'hh = 92 := fun hh => (byteAt_get s ix hh).trans c92
        cases q with
        | true =>
          rw [if_pos ⟨c92, rfl⟩] at hls
          have LS := Aside0.mk hls
          clear hls c92
          gi_wp2_with fail
          go_roundw
          case rel => exact ⟨k, fr, ix + 2, true, pre, rfl, rfl, by go_num, by omega, by omega, by omega, by omega, LS.out, hJs, hbs⟩
          case measure => simp [intOf]; omega
        | false =>
          rw [if_neg (fun h => by cases h.2), if_neg (by rw [c92]; decide), if_neg (fun h => by rw [c92] at h; exact absurd h.1 (by decide))] at hls
          have LS := Aside0.mk hls
          clear hls c92
          gi_wp2_with fail
          go_roundw
          case rel => exact ⟨k, fr, ix + 1, false, pre, rfl, rfl, by go_num, by omega, by omega, by omega, by omega, LS.out, hJs, hbs⟩
          case measure => simp [intOf]; omega
      · rw [if_neg (fun h => c92 h.1)] at hls
        have n92 : ((byteAt s ix).toNat : Int) ≠ 92 := fun e => c92 (by rw [← UInt8.toNat_inj]; show _ = 92; omega)
        have d92 : (((byteAt s ix).toNat : Int) == 92) = false := by simpa using n92
        by_cases c34 : byteAt s ix = 34
        · have k0 : ∀ hh, s[ix]'hh = 34 := fun hh => (byteAt_get s ix hh).trans c34
          rw [if_pos c34] at hls
          have LS := Aside0.mk hls
          clear hls c34 c92 n92 d92
          gi_wp2_with fail
          go_roundw
          case rel => exact ⟨k, fr, ix + 1, !q, pre, rfl, rfl, by go_num, by omega, by omega, by omega, by omega, LS.out, hJs, hbs⟩
          case measure => simp [intOf]; omega
        · rw [if_neg c34] at hls
          have n34 : ((byteAt s ix).toNat : Int) ≠ 34 := fun e => c34 (by rw [← UInt8.toNat_inj]; show _ = 34; omega)
          have d34 : (((byteAt s ix).toNat : Int) == 34) = false := by simpa using n34
          by_cases c59 : byteAt s ix = 59
          · have k0 : ∀ hh, s[ix]'hh = 59 := fun hh => (byteAt_get s ix hh).trans c59
            cases q with
            | true =>
              rw [if_neg (fun h => by cases h.2)] at hls
              have LS := Aside0.mk hls
              clear hls c59 c34 c92 n92 d92 n34 d34
              gi_wp2_with fail
              go_roundw
              case rel => exact ⟨k, fr, ix + 1, true, pre, rfl, rfl, by go_num, by omega, by omega, by omega, by omega, LS.out, hJs, hbs⟩
              case measure => simp [intOf]; omega
            | false =>
              rw [if_pos ⟨c59, rfl⟩] at hls
              have LS := Aside0.mk hls
              have hmem : s.extract fr ix ∈ piecesOf s := by rw [hls]; simp
              have hlen : pre.length < (piecesOf s).length := by rw [hls]; simp
              obtain ⟨fn, tmps, assign, body, hy, hR⟩ := hY pre (s.extract fr ix) wr hmem hJs hlen
              have hsl1 : (fr : Int) ≤ (ix : Int) := by omega
              have hsl2 : (ix : Int) ≤ (s.size : Int) := by omega
              have hsl3 : (0 : Int) ≤ (fr : Int) := by omega
              clear hls c59 c34 c92 n92 d92 n34 d34 hmem hlen
              gi_wp2_with fail
              refine hR.mono ?_
              rintro e W3 (⟨rfl, hJ3, hk3⟩ | ⟨rfl, hJx3⟩)
              · gi_wp2_with fail
                go_roundw
                case rel => exact ⟨k, ix + 1, ix + 1, false, pre ++ [s.extract fr ix], by go_num, rfl, by go_num, by omega, by omega, by omega, by omega, by rw [LS.out]; simp, hJ3, hk3.trans hbs⟩
                case measure => simp [intOf]; omega
              · gi_wp2_with fail
                refine bodyPost_ret (results_none rfl _ _ _) rfl ?_
                exact ⟨⟨_, rfl⟩, .inr ⟨_, ⟨piecesAt s k (ix + 1) false (ix + 1), by rw [LS.out]; simp⟩, hJx3⟩⟩
          · rw [if_neg (fun h => c59 h.1)] at hls
            have n59 : ((byteAt s ix).toNat : Int) ≠ 59 := fun e => c59 (by rw [← UInt8.toNat_inj]; show _ = 59; omega)
            have d59 : (((byteAt s ix).toNat : Int) == 59) = false := by simpa using n59
            have k0 : ∀ hh, s[ix]'hh = byteAt s ix := fun hh => byteAt_get s ix hh
            have LS := Aside0.mk hls
            clear hls c59 c34 c92
            gi_wp2_with fail
            go_roundw
            case rel => exact ⟨k, fr, ix + 1, q, pre, rfl, rfl, by go_num, by omega, by omega, by omega, by omega, LS.out, hJs, hbs⟩
            case measure => simp [intOf]; omega
    · rw [piecesAt_end s k fr ix q (by omega)] at hls
      have LS := Aside0.mk hls
      have hmem : s.extract fr s.size ∈ piecesOf s := by rw [hls]; simp
      have hlen : pre.length < (piecesOf s).length := by rw [hls]; simp
      obtain ⟨fn, tmps, assign, body, hy, hR⟩ := hY pre (s.extract fr s.size) wr hmem hJs hlen
      have hsl2 : (fr : Int) ≤ (s.size : Int) := by omega
      have hsl3 : (0 : Int) ≤ (fr : Int) := by omega
      have hq1 : ¬ (ix : Int) < (s.size : Int) := by omega
      clear hls hmem hlen
      gi_wp2_with fail
      refine hR.mono ?_
      rintro e W3 (⟨rfl, hJ3, hk3⟩ | ⟨rfl, hJx3⟩)
      · gi_wp2_with fail
        go_end0
        exact ⟨⟨_, rfl⟩, .inl ⟨_, rfl, by rw [LS.out]; exact hJ3⟩⟩
      · gi_wp2_with fail
        go_end0
        exact ⟨⟨_, rfl⟩, .inr ⟨_, ⟨[], by rw [LS.out]; simp⟩, hJx3⟩⟩
end Go.Proofs.YtieompfmhnpnaaaGreat.H
end
section
namespace Go.Proofs.YtieompfmhnpnaaaGreat.H
open Go.RowKit Go.Proofs.YtieompfmhnpnaaaGreatW.PrintWords Go.Proofs.YtieompfmhnpnaaaGreatW.PrintLast Go.Proofs.YtieompfmhnpnaaaGreatW.PrintMore
set_option linter.unusedVariables false
set_option linter.unusedSimpArgs false
structure PS where
  fs : List S35
  vs : List ByteArray
  en : Nat
def doneF (fs : List S35) (vs : List ByteArray) : List S35 :=
  match fs.getLast? with
  | none => []
  | some f => fs.dropLast ++ [⟨f.f0, joinS vs⟩]
theorem doneF_snoc (fs : List S35) (f : S35) (vs : List ByteArray) : doneF (fs ++ [f]) vs = fs ++ [⟨f.f0, joinS vs⟩] := by simp [doneF]
theorem doneF_length (fs : List S35) (vs : List ByteArray) : (doneF fs vs).length = fs.length := by
  rcases List.eq_nil_or_concat fs with rfl | ⟨gs, g, rfl⟩
  · rfl
  · rw [List.concat_eq_append, doneF_snoc]; simp
def stepP (st : PS) (x : LineX) : PS × Bool :=
  if x.con.size = 0 then (⟨st.fs, st.vs, x.un⟩, false)
  else if blankB (byteAt x.con 0) = true ∧ 0 < st.fs.length then (⟨st.fs, addV st.vs x.con, x.un⟩, true)
  else if (cutAt x.con 58).2.2 = false ∨ isNameB (cutAt x.con 58).1 = false ∨ 400 ≤ st.fs.length then (st, false)
  else (⟨doneF st.fs st.vs ++ [⟨(cutAt x.con 58).1, ⟨#[]⟩⟩], addV [] (cutAt x.con 58).2.1, x.un⟩, true)
def goP (st : PS) : List LineX → Option PS
  | [] => some st
  | x :: xs => if (stepP st x).2 then goP (stepP st x).1 xs else none
def foldP (st : PS) : List LineX → PS
  | [] => st
  | x :: xs => if (stepP st x).2 then foldP (stepP st x).1 xs else (stepP st x).1
theorem goP_snoc (st : PS) (xs : List LineX) (x : LineX) : goP st (xs ++ [x]) = (goP st xs).bind fun s => if (stepP s x).2 then some (stepP s x).1 else none := by
  induction xs generalizing st with
  | nil => simp [goP]
  | cons y ys ih =>
    show (if (stepP st y).2 then goP (stepP st y).1 (ys ++ [x]) else none) = ((if (stepP st y).2 then goP (stepP st y).1 ys else none).bind _)
    split
    · exact ih _
    · rfl
theorem foldP_of_goP {st st' : PS} {xs : List LineX} (h : goP st xs = some st') : foldP st xs = st' := by
  induction xs generalizing st with
  | nil => exact Option.some.inj h
  | cons y ys ih =>
    unfold goP at h
    unfold foldP
    split at h
    · rename_i h1
      rw [if_pos h1]
      exact ih h
    · cases h
theorem foldP_stop {st st' : PS} {xs rest : List LineX} {x : LineX} (h : goP st xs = some st') (hx : (stepP st' x).2 = false) : foldP st (xs ++ [x] ++ rest) = (stepP st' x).1 := by
  induction xs generalizing st with
  | nil =>
    obtain rfl := Option.some.inj h
    simp [foldP, hx]
  | cons y ys ih =>
    unfold goP at h
    show (if (stepP st y).2 then foldP (stepP st y).1 (ys ++ [x] ++ rest) else _) = _
    split at h
    · rename_i h1
      rw [if_pos h1]
      exact ih h
    · cases h
def parseS (s : ByteArray) : List S35 × Nat :=
  let st := foldP ⟨[], [], 0⟩ (linesOf s)
  (doneF st.fs st.vs, st.en)
def BdP (M k : Nat) (st : PS) : Prop := st.vs.length ≤ k ∧ (∀ v ∈ st.vs, v.size ≤ M) ∧ st.fs.length ≤ 400
theorem cutAt_two (s : ByteArray) (c : UInt8) : (cutAt s c).1.size ≤ s.size ∧ (cutAt s c).2.1.size ≤ s.size := by
  refine ⟨by have := (cutAt_size s c).1; omega, ?_⟩
  by_cases h : 0 ≤ Lib.indexByte s.data.toList c
  · have e : cutAt s c = (s.extract 0 (Lib.indexByte s.data.toList c).toNat, s.extract ((Lib.indexByte s.data.toList c).toNat + 1) s.size, true) := by
      unfold cutAt; simp [h]
    rw [e]
    simp
  · have e : cutAt s c = (s, ⟨#[]⟩, false) := by
      unfold cutAt; simp [h]
    rw [e]
    exact Nat.zero_le _
theorem addV_bd {M k : Nat} {vs : List ByteArray} {s : ByteArray} (h1 : vs.length ≤ k) (h2 : ∀ v ∈ vs, v.size ≤ M) (hs : s.size ≤ M) : (addV vs s).length ≤ k + 1 ∧ ∀ v ∈ addV vs s, v.size ≤ M := by
  unfold addV
  split
  · exact ⟨by omega, h2⟩
  · refine ⟨by simp; omega, fun v hv => ?_⟩
    rcases List.mem_append.1 hv with hv | hv
    · exact h2 v hv
    · obtain rfl : v = trimS s := by simpa using hv
      exact Nat.le_trans (trim_size s) hs
theorem stepP_bd {M k : Nat} {st : PS} {x : LineX} (h : BdP M k st) (hx : x.con.size ≤ M) : BdP M (k + 1) (stepP st x).1 := by
  obtain ⟨h1, h2, h3⟩ := h
  unfold stepP
  split
  · exact ⟨by simp; omega, h2, h3⟩
  · split
    · have := addV_bd h1 h2 hx
      exact ⟨this.1, this.2, h3⟩
    · split
      · exact ⟨by simp; omega, h2, h3⟩
      · rename_i h4
        have h5 : (cutAt x.con 58).2.1.size ≤ M := Nat.le_trans (cutAt_two _ _).2 hx
        have := addV_bd (M := M) (k := k) (vs := []) (s := (cutAt x.con 58).2.1) (Nat.zero_le _) (fun v hv => by cases hv) h5
        refine ⟨this.1, this.2, ?_⟩
        have h6 : ¬ 400 ≤ st.fs.length := fun h => h4 (.inr (.inr h))
        simp [doneF_length]
        omega
theorem goP_bd {M : Nat} {xs : List LineX} (hx : ∀ x ∈ xs, x.con.size ≤ M) {k : Nat} {st st' : PS} (h : BdP M k st) (hg : goP st xs = some st') : BdP M (k + xs.length) st' := by
  induction xs generalizing st k with
  | nil => obtain rfl := Option.some.inj hg; exact h
  | cons y ys ih =>
    unfold goP at hg
    split at hg
    · have := ih (fun x hx' => hx x (List.mem_cons_of_mem _ hx')) (stepP_bd h (hx y List.mem_cons_self)) hg
      have e : k + (y :: ys).length = k + 1 + ys.length := by simp; omega
      rw [e]
      exact this
    · cases hg
theorem joinS_size {M : Nat} {vs : List ByteArray} (h : ∀ v ∈ vs, v.size ≤ M) : (joinS vs).size ≤ vs.length * (M + 1) := by
  unfold joinS
  rw [mkB_size]
  induction vs with
  | nil => exact Nat.zero_le _
  | cons v vs ih =>
    have h1 := ih (fun u hu => h u (List.mem_cons_of_mem _ hu))
    have h2 := h v List.mem_cons_self
    rw [← bl_length] at h2
    have e : (v :: vs).length * (M + 1) = vs.length * (M + 1) + (M + 1) := by rw [List.length_cons, Nat.succ_mul]
    rw [e]
    cases vs with
    | nil => simp only [List.map_cons, List.map_nil, Lib.join]; simp at h2 ⊢; omega
    | cons u us =>
      simp only [List.map_cons, Lib.join, List.length_append] at h1 ⊢
      simp at h1 h2 ⊢
      omega
def Ex (n0 : Nat) (W : World) (i : Nat) : Prop := n0 ≤ i ∧ ∃ cells t, W.heap[i]? = some (.cells cells t (0, 0)) ∧ t ≠ 81
def Stp (n0 : Nat) (W W' : World) : Prop := FrameX (Ex n0 W) W W'
theorem Stp.refl (n0 : Nat) (W : World) : Stp n0 W W := FrameX.refl _ _
theorem Stp.trans {n0 : Nat} {A B C : World} (h : Stp n0 A B) (k : Stp n0 B C) : Stp n0 A C :=
  ⟨k.os.trans h.os, k.tape.trans h.tape, k.output.trans h.output, Nat.le_trans h.size k.size, fun i hi he => by
    have e1 := h.block i hi he
    exact (k.block i (Nat.lt_of_lt_of_le hi h.size) (fun ⟨h1, c, t, h2, h3⟩ => he ⟨h1, c, t, e1 ▸ h2, h3⟩)).trans e1⟩
theorem Stp.keeps {n0 : Nat} {W W' : World} (h : Stp n0 W W') (B : Nat) : KeepsFrom B W W' :=
  ⟨h.size, fun k o _ hk ho => (h.block k (Array.getElem?_eq_some_iff.1 hk).1 (fun ⟨_, c, t, h2, _⟩ => by rw [h2] at hk; cases hk; cases ho)).trans hk⟩
theorem Stp.below {n0 : Nat} {W W' : World} (h : Stp n0 W W') (hn : n0 ≤ W.heap.size) : Below n0 W W' :=
  ⟨h.os, h.tape, h.output, h.size, fun i hi => h.block i (Nat.lt_of_lt_of_le hi hn) (fun ⟨h1, _⟩ => by omega)⟩
theorem Stp.lv {n0 : Nat} {W W' : World} (h : Stp n0 W W') {B : Nat} {c : Array Value} (hv : W.heap[B]? = some (.cells c 81 (0, 0))) : W'.heap[B]? = some (.cells c 81 (0, 0)) :=
  (h.block B (Array.getElem?_eq_some_iff.1 hv).1 (fun ⟨_, c', t, h2, h3⟩ => by rw [hv] at h2; injection h2 with h2; injection h2 with _ h2 _; exact h3 h2.symm)).trans hv
theorem Stp.setCell {n0 : Nat} {A W : World} (h : Stp n0 A W) {b : Nat} {c : Array Value} {t : TypeId} (hb : n0 ≤ b) (hc : W.heap[b]? = some (.cells c t (0, 0))) (ht : t ≠ 81) (j : Nat) (v : Value) : Stp n0 A (W.setCell ⟨b, j, none⟩ v) :=
  h.trans ((FrameX.refl _ W).setCell ⟨b, j, none⟩ ⟨hb, c, t, hc, ht⟩ v)
def FIN (b0 b1 : Nat) : Value := .func (.func 57) #[] #[.pointer (some ⟨b0, 0, none⟩), .pointer (some ⟨b1, 0, none⟩)]
def ADD (b1 : Nat) : Value := .func (.func 59) #[] #[.pointer (some ⟨b1, 0, none⟩)]
structure PSt (n0 b0 b1 b2 b3 b4 bs : Nat) (raw : ByteArray) (st : PS) (vF vV : Value) (W : World) : Prop where
  c0 : W.heap[b0]? = some (.cells #[vF] 33 (0, 0))
  c1 : W.heap[b1]? = some (.cells #[vV] 42 (0, 0))
  c2 : W.heap[b2]? = some (.cells #[FIN b0 b1] 1 (0, 0))
  c3 : W.heap[b3]? = some (.cells #[ADD b1] 76 (0, 0))
  c4 : W.heap[b4]? = some (.cells #[.int .i64 (st.en : Int)] 3 (0, 0))
  cs : W.heap[bs]? = some (.cells #[.string raw] 9 (0, 0))
  oF : W.ownsRow n0 35 2 vF st.fs.length (fieldVals st.fs)
  oV : W.ownsRow n0 9 1 vV st.vs.length (strVals st.vs)
  ne : vV.ownBlock ≠ some bs
section
variable {n0 b0 b1 b2 b3 b4 bs : Nat} {raw : ByteArray} {st : PS} {vF vV : Value} {W : World}
theorem pst_own (X Y : World) (row : Option Nat) (h : PSt n0 b0 b1 b2 b3 b4 bs raw st vF vV X) (hg : X.grownBy Y row) (hr : ∀ r, row = some r → ∃ o : Obj, X.heap[r]? = some o ∧ o.isCells = false) : PSt n0 b0 b1 b2 b3 b4 bs raw st vF vV Y := by
  have k : ∀ {b : Nat} {c : Array Value} {t : TypeId}, X.heap[b]? = some (.cells c t (0, 0)) → Y.heap[b]? = some (.cells c t (0, 0)) := fun {b c t} hb =>
    (grownBy_keeps_cells hg hr hb rfl).trans hb
  have ko : ∀ {e : TypeId} {size n : Nat} {v : Value} {xs : List Value}, X.ownsRow n0 e size v n xs → Y.ownsRow n0 e size v n xs := fun {e size n v xs} ho => by
    refine ho.kept hg ?_
    cases hv : v.ownBlock with
    | none => exact .inl rfl
    | some g =>
      refine .inr (fun e' => ?_)
      obtain ⟨cells, hc⟩ := own_typed ho g hv
      obtain ⟨o, h1, h2⟩ := hr g e'.symm
      rw [hc] at h1
      cases h1
      cases h2
  exact ⟨k h.c0, k h.c1, k h.c2, k h.c3, k h.c4, k h.cs, ko h.oF, ko h.oV, h.ne⟩
theorem own_not {e t : TypeId} {size n b : Nat} {v : Value} {xs : List Value} {c : Array Value} (h : W.ownsRow n0 e size v n xs) (hb : W.heap[b]? = some (.cells c t (0, 0))) (ht : t ≠ e) : v.ownBlock ≠ some b := fun e2 => by
  obtain ⟨cells, hcc⟩ := own_typed h b e2
  rw [hb] at hcc
  injection hcc with hcc
  injection hcc with _ h2 _
  exact ht h2
theorem own_ex {e : TypeId} {size n : Nat} {v : Value} {xs : List Value} (h : W.ownsRow n0 e size v n xs) (he : e ≠ 81) {i : Nat} (hi : some i = v.ownBlock) : Ex n0 W i := by
  obtain ⟨cells, hcc⟩ := own_typed h i hi.symm
  exact ⟨own_base h i hi.symm, cells, e, hcc, he⟩
theorem pst_drewN (h : PSt n0 b0 b1 b2 b3 b4 bs raw st vF vV W) (k : Nat) : PSt n0 b0 b1 b2 b3 b4 bs raw st vF vV (W.drewN k) := pst_own W _ none h ⟨rfl, rfl, rfl, Nat.le_refl _, fun _ _ _ => rfl⟩ (fun r e => by cases e)
theorem Stp.drewN {n0 : Nat} {A W : World} (h : Stp n0 A W) (k : Nat) : Stp n0 A (W.drewN k) := FrameX.drewN h k
theorem add_ps (h : PSt n0 b0 b1 b2 b3 b4 bs raw st vF vV W) (hb1 : n0 ≤ b1) (s : ByteArray) (hs : s.size ≤ 1099511627776) (hlen : st.vs.length ≤ 1099511627776) (hn : n0 ≤ W.heap.size) :
    Calls Tryz.prog 59 #[.string s, .pointer (some ⟨b1, 0, none⟩)] W fun e w' => e = .returned (.tuple #[]) ∧ (∃ vV', PSt n0 b0 b1 b2 b3 b4 bs raw ⟨st.fs, addV st.vs s, st.en⟩ vF vV' w') ∧ Stp n0 W w' := by
  refine (add_calls n0 b1 vV st.vs s W hb1 h.c1 h.oV hlen hs hn).mono ?_
  rintro e w' ⟨rfl, vV', k1, k2, k3, k4⟩
  refine ⟨rfl, ⟨vV', ?_⟩, k4.imp ?_⟩
  · have kb : ∀ {b : Nat} {c : Array Value} {t : TypeId}, W.heap[b]? = some (.cells c t (0, 0)) → b ≠ b1 → some b ≠ vV.ownBlock → w'.heap[b]? = some (.cells c t (0, 0)) := fun {b c t} hb h1 h2 =>
      (k4.block b (Array.getElem?_eq_some_iff.1 hb).1 (fun h3 => h3.elim h1 h2)).trans hb
    have d1 : ∀ {b : Nat} {c : Array Value} {t : TypeId}, W.heap[b]? = some (.cells c t (0, 0)) → t ≠ 42 → b ≠ b1 := fun {b c t} hb ht e => by
      subst e
      rw [h.c1] at hb
      injection hb with hb
      injection hb with _ h2 _
      exact ht h2.symm
    refine ⟨kb h.c0 (d1 h.c0 (by decide)) (Ne.symm (own_not h.oV h.c0 (by decide))), k1, kb h.c2 (d1 h.c2 (by decide)) (Ne.symm (own_not h.oV h.c2 (by decide))), kb h.c3 (d1 h.c3 (by decide)) (Ne.symm (own_not h.oV h.c3 (by decide))),
      kb h.c4 (d1 h.c4 (by decide)) (Ne.symm (own_not h.oV h.c4 (by decide))), kb h.cs (d1 h.cs (by decide)) (Ne.symm h.ne), ?_, k2, ?_⟩
    · refine own_move h.oF (fun g hg => ?_)
      obtain ⟨cells, hcc⟩ := own_typed h.oF g hg
      exact (kb hcc (d1 hcc (by decide)) (Ne.symm (own_not h.oV hcc (by decide)))).trans hcc.symm
    · rcases k3 with k3 | ⟨b, k3, k5⟩
      · rw [k3]; exact h.ne
      · rw [k3]
        intro e
        injection e with e
        have := (Array.getElem?_eq_some_iff.1 h.cs).1
        omega
  · rintro i hi (rfl | h2)
    · exact ⟨hb1, _, _, h.c1, by decide⟩
    · exact own_ex h.oV (by decide) h2
theorem fin_ps (h : PSt n0 b0 b1 b2 b3 b4 bs raw st vF vV W) (hb0 : n0 ≤ b0) (hb1 : n0 ≤ b1) (hfl : st.fs.length ≤ 1099511627776) (hlen : st.vs.length ≤ 1099511627776) (hj : (joinS st.vs).size ≤ 140737488355328) (hn : n0 ≤ W.heap.size) :
    Calls Tryz.prog 57 #[.pointer (some ⟨b0, 0, none⟩), .pointer (some ⟨b1, 0, none⟩)] W fun e w' => e = .returned (.tuple #[]) ∧ PSt n0 b0 b1 b2 b3 b4 bs raw ⟨doneF st.fs st.vs, [], st.en⟩ vF (.slice none 0 0) w' ∧ Stp n0 W w' := by
  have main : ∀ w', w'.heap[b0]? = some (.cells #[vF] 33 (0, 0)) → w'.heap[b1]? = some (.cells #[.slice none 0 0] 42 (0, 0)) → w'.ownsRow n0 35 2 vF (doneF st.fs st.vs).length (fieldVals (doneF st.fs st.vs)) → FrameX (fun i => i = b1 ∨ some i = vF.ownBlock) W w' →
      PSt n0 b0 b1 b2 b3 b4 bs raw ⟨doneF st.fs st.vs, [], st.en⟩ vF (.slice none 0 0) w' ∧ Stp n0 W w' := by
    intro w' k0 k1 k2 k4
    refine ⟨?_, k4.imp ?_⟩
    · have kb : ∀ {b : Nat} {c : Array Value} {t : TypeId}, W.heap[b]? = some (.cells c t (0, 0)) → b ≠ b1 → some b ≠ vF.ownBlock → w'.heap[b]? = some (.cells c t (0, 0)) := fun {b c t} hb h1 h2 =>
        (k4.block b (Array.getElem?_eq_some_iff.1 hb).1 (fun h3 => h3.elim h1 h2)).trans hb
      have d1 : ∀ {b : Nat} {c : Array Value} {t : TypeId}, W.heap[b]? = some (.cells c t (0, 0)) → t ≠ 42 → b ≠ b1 := fun {b c t} hb ht e => by
        subst e
        rw [h.c1] at hb
        injection hb with hb
        injection hb with _ h2 _
        exact ht h2.symm
      exact ⟨k0, k1, kb h.c2 (d1 h.c2 (by decide)) (Ne.symm (own_not h.oF h.c2 (by decide))), kb h.c3 (d1 h.c3 (by decide)) (Ne.symm (own_not h.oF h.c3 (by decide))),
        kb h.c4 (d1 h.c4 (by decide)) (Ne.symm (own_not h.oF h.c4 (by decide))), kb h.cs (d1 h.cs (by decide)) (Ne.symm (own_not h.oF h.cs (by decide))), k2, own_nil _ _ _ _, by simp [Value.ownBlock]⟩
    · rintro i hi (rfl | h2)
      · exact ⟨hb1, _, _, h.c1, by decide⟩
      · exact own_ex h.oF (by decide) h2
  have hoF := h.oF
  rcases List.eq_nil_or_concat st.fs with e | ⟨gs, g, e⟩
  · rw [e] at hoF
    refine (finish_none n0 b0 b1 vF vV W h.c0 h.c1 hoF).mono ?_
    rintro e' w' ⟨rfl, k0, k1, k2, k4⟩
    exact ⟨rfl, main w' k0 k1 (by rw [e]; exact k2) k4⟩
  · rw [List.concat_eq_append] at e
    rw [e, List.length_append] at hoF hfl
    refine (finish_calls n0 b0 b1 vF vV gs g st.vs W hb0 hb1 h.c0 h.c1 hoF h.oV hlen (by simp at hfl; omega) hj hn).mono ?_
    rintro e' w' ⟨rfl, k0, k1, k2, k4⟩
    exact ⟨rfl, main w' k0 k1 (by rw [e, doneF_snoc, List.length_append]; exact k2) k4⟩
theorem ty_ne {b b' : Nat} {c c' : Array Value} {t t' : TypeId} (h : W.heap[b]? = some (.cells c t (0, 0))) (h' : W.heap[b']? = some (.cells c' t' (0, 0))) (ht : t ≠ t') : b ≠ b' := fun e => by
  subst e
  rw [h] at h'
  injection h' with h'
  injection h' with _ h2 _
  exact ht h2
theorem en_ps (h : PSt n0 b0 b1 b2 b3 b4 bs raw st vF vV W) (hb4 : n0 ≤ b4) (un : Nat) :
    PSt n0 b0 b1 b2 b3 b4 bs raw ⟨st.fs, st.vs, un⟩ vF vV (W.setCell ⟨b4, 0, none⟩ (.int .i64 (un : Int))) ∧ Stp n0 W (W.setCell ⟨b4, 0, none⟩ (.int .i64 (un : Int))) := by
  refine ⟨⟨blk_far h.c0 (ty_ne h.c0 h.c4 (by decide)) _, blk_far h.c1 (ty_ne h.c1 h.c4 (by decide)) _, blk_far h.c2 (ty_ne h.c2 h.c4 (by decide)) _, blk_far h.c3 (ty_ne h.c3 h.c4 (by decide)) _, ?_, blk_far h.cs (ty_ne h.cs h.c4 (by decide)) _,
    h.oF.kept (grownBy_setCell' W b4 _) (.inr (own_not h.oF h.c4 (by decide))), h.oV.kept (grownBy_setCell' W b4 _) (.inr (own_not h.oV h.c4 (by decide))), h.ne⟩, (Stp.refl n0 W).setCell hb4 h.c4 (by decide) _ _⟩
  have := blk_set h.c4 0 (.int .i64 (un : Int))
  simpa using this
theorem app_ps (h : PSt n0 b0 b1 b2 b3 b4 bs raw st vF vV W) (hb0 : n0 ≤ b0) (hn : n0 ≤ W.heap.size) {o : Obj} {w2 : World} {v' : Value} {nm : ByteArray}
    (hown' : w2.ownsRow n0 35 2 v' (st.fs.length + 1) (fieldVals st.fs ++ [.string nm, .string ⟨#[]⟩])) (hg : (W.alloc o).grownBy w2 vF.ownBlock) :
    w2.cell? ⟨b0, 0, none⟩ = some vF ∧ w2.frozen? ⟨b0, 0, none⟩ = false ∧ PSt n0 b0 b1 b2 b3 b4 bs raw ⟨st.fs ++ [⟨nm, ⟨#[]⟩⟩], st.vs, st.en⟩ v' vV (w2.setCell ⟨b0, 0, none⟩ v') ∧ Stp n0 W (w2.setCell ⟨b0, 0, none⟩ v') := by
  have kb : ∀ {b : Nat} {c : Array Value} {t : TypeId}, W.heap[b]? = some (.cells c t (0, 0)) → some b ≠ vF.ownBlock → w2.heap[b]? = some (.cells c t (0, 0)) := fun {b c t} hb h2 => by
    have hlt := (Array.getElem?_eq_some_iff.1 hb).1
    rw [hg.block b (by simp; omega) h2]
    exact (Lib.alloc_old W _ b hlt).trans hb
  have k0 := kb h.c0 (Ne.symm (own_not h.oF h.c0 (by decide)))
  have k1 := kb h.c1 (Ne.symm (own_not h.oF h.c1 (by decide)))
  have k2 := kb h.c2 (Ne.symm (own_not h.oF h.c2 (by decide)))
  have k3 := kb h.c3 (Ne.symm (own_not h.oF h.c3 (by decide)))
  have k4 := kb h.c4 (Ne.symm (own_not h.oF h.c4 (by decide)))
  have ks := kb h.cs (Ne.symm (own_not h.oF h.cs (by decide)))
  have hV : w2.ownsRow n0 9 1 vV st.vs.length (strVals st.vs) := by
    refine own_move h.oV (fun g hg2 => ?_)
    obtain ⟨cells, hcc⟩ := own_typed h.oV g hg2
    exact (kb hcc (Ne.symm (own_not h.oF hcc (by decide)))).trans hcc.symm
  have hst : Stp n0 W w2 := ((FrameX.refl _ W).trans (FrameX.of_below ((Below.refl _ W).alloc (Nat.le_refl _) o))).grown hg (fun k hk _ => own_ex h.oF (by decide) hk.symm)
  refine ⟨by simp [World.cell?, k0], by simp [World.frozen?, k0], ⟨?_, blk_far k1 (ty_ne k1 k0 (by decide)) _, blk_far k2 (ty_ne k2 k0 (by decide)) _, blk_far k3 (ty_ne k3 k0 (by decide)) _, blk_far k4 (ty_ne k4 k0 (by decide)) _, blk_far ks (ty_ne ks k0 (by decide)) _, ?_,
    hV.kept (grownBy_setCell' w2 b0 _) (.inr (own_not hV k0 (by decide))), h.ne⟩, hst.setCell hb0 k0 (by decide) _ _⟩
  · have := blk_set k0 0 v'
    simpa using this
  · rw [fieldVals_snoc, List.length_append]
    exact hown'.kept (grownBy_setCell' w2 b0 _) (.inr (own_not hown' k0 (by decide)))
theorem pst_result (h : PSt n0 b0 b1 b2 b3 b4 bs raw st vF vV W) : Kd.R k35 35 W n0 (fun _ => True) vF st.fs := by
  refine ⟨fun _ _ => trivial, fieldVals st.fs, h.oF, fieldVals_length _, fun j p hj => ?_⟩
  have e : ((fieldVals st.fs).drop (j * 2)).take 2 = [.string p.f0, .string p.f1] := by
    have : ∀ (l : List S35) (j : Nat), l[j]? = some p → ((fieldVals l).drop (j * 2)).take 2 = [.string p.f0, .string p.f1] := by
      intro l
      induction l with
      | nil => intro j h; simp at h
      | cons x l ih =>
        intro j hj
        match j, hj with
        | 0, hj =>
          obtain rfl : x = p := by simpa using hj
          rfl
        | j + 1, hj =>
          have := ih j (by simpa using hj)
          have e1 : fieldVals (x :: l) = .string x.f0 :: .string x.f1 :: fieldVals l := rfl
          rw [e1, show (j + 1) * 2 = j * 2 + 1 + 1 by omega]
          exact this
    exact this st.fs j hj
  rw [show k35.sz = 2 from rfl, e]
  exact k35_mkM _ _ _ p
end
theorem cell_of {W : World} {b j : Nat} {c : Array Value} {t : TypeId} {v : Value} (h : W.heap[b]? = some (.cells c t (0, 0))) (hj : c[j]? = some v) : W.cell? ⟨b, j, none⟩ = some v := by simp [World.cell?, h, hj]
theorem frozen_of {W : World} {b j : Nat} {c : Array Value} {t : TypeId} (h : W.heap[b]? = some (.cells c t (0, 0))) : W.frozen? ⟨b, j, none⟩ = false := by simp [World.frozen?, h]
def w0P (w : World) (a0 : ByteArray) : World := (((((w.alloc (Obj.cells #[Value.slice none 0 0] 33)).alloc (Obj.cells #[Value.slice none 0 0] 42)).alloc (Obj.cells #[FIN w.heap.size (w.heap.size + 1)] 1)).alloc (Obj.cells #[ADD (w.heap.size + 1)] 76)).alloc (Obj.cells #[Value.int IntKind.i64 0] 3)).alloc (Obj.cells #[Value.string a0] 9)
theorem w0P_size (w : World) (a0 : ByteArray) : (w0P w a0).heap.size = w.heap.size + 6 := by unfold w0P; simp
theorem w0P_below (w : World) (a0 : ByteArray) : Below w.heap.size w (w0P w a0) := by
  unfold w0P
  exact ((((((Below.refl _ w).alloc (Nat.le_refl _) _).alloc (by simp) _).alloc (by simp <;> omega) _).alloc (by simp <;> omega) _).alloc (by simp <;> omega) _).alloc (by simp <;> omega) _
theorem alloc_at (X : World) (o : Obj) (i : Nat) (h : i = X.heap.size) : (X.alloc o).heap[i]? = some o := by rw [h]; exact World.alloc_heap_new X o
theorem alloc_old' (X : World) (o o' : Obj) (i : Nat) (h : X.heap[i]? = some o') : (X.alloc o).heap[i]? = some o' := (Lib.alloc_old X o i (Array.getElem?_eq_some_iff.1 h).1).trans h
theorem pst_start (w : World) (a0 : ByteArray) :
    PSt w.heap.size w.heap.size (w.heap.size + 1) (w.heap.size + 1 + 1) (w.heap.size + 1 + 1 + 1) (w.heap.size + 1 + 1 + 1 + 1) (w.heap.size + 1 + 1 + 1 + 1 + 1) a0 ⟨[], [], 0⟩ (.slice none 0 0) (.slice none 0 0) (w0P w a0) := by
  unfold w0P
  refine ⟨?_, ?_, ?_, ?_, ?_, ?_, own_nil _ _ _ _, own_nil _ _ _ _, by simp [Value.ownBlock]⟩
  · exact alloc_old' _ _ _ _ (alloc_old' _ _ _ _ (alloc_old' _ _ _ _ (alloc_old' _ _ _ _ (alloc_old' _ _ _ _ (alloc_at _ _ _ rfl)))))
  · exact alloc_old' _ _ _ _ (alloc_old' _ _ _ _ (alloc_old' _ _ _ _ (alloc_old' _ _ _ _ (alloc_at _ _ _ (by simp)))))
  · exact alloc_old' _ _ _ _ (alloc_old' _ _ _ _ (alloc_old' _ _ _ _ (alloc_at _ _ _ (by simp))))
  · exact alloc_old' _ _ _ _ (alloc_old' _ _ _ _ (alloc_at _ _ _ (by simp)))
  · exact alloc_old' _ _ _ _ (alloc_at _ _ _ (by simp))
  · exact alloc_at _ _ _ (by simp)
end Go.Proofs.YtieompfmhnpnaaaGreat.H
end
section
namespace Go.Proofs.YtieompfmhnpnaaaGreat.H
open Go.RowKit Go.Proofs.YtieompfmhnpnaaaGreatW.PrintWords Go.Proofs.YtieompfmhnpnaaaGreatW.PrintLast Go.Proofs.YtieompfmhnpnaaaGreatW.PrintMore
set_option linter.unusedVariables false
set_option linter.unusedSimpArgs false
attribute [local go_sem] Oper.semAt_some
attribute [local go_sem] wide_fn wide_depth wide_fn_r wide_depth_r
def header_Parse.f (a0 : ByteArray) : Option (List S35 × Int) := if a0.size ≤ 8388608 then some ((parseS a0).1, ((parseS a0).2 : Int)) else none
def InvP (n0 b0 b1 b2 b3 b4 bs : Nat) (raw : ByteArray) (w : World) (pre : List Nat) (W : World) : Prop :=
  (∃ st vF vV, goP ⟨[], [], 0⟩ (pre.map (lineNo raw)) = some st ∧ PSt n0 b0 b1 b2 b3 b4 bs raw st vF vV W) ∧ Below n0 w W
def InvX (n0 b0 b1 b2 b3 b4 bs : Nat) (raw : ByteArray) (w : World) (c : Code) (pre : List Nat) (W : World) : Prop :=
  (c = .exit 0 ∧ ∃ pre0 x st vF vV, pre = pre0 ++ [x] ∧ goP ⟨[], [], 0⟩ (pre0.map (lineNo raw)) = some st ∧ (stepP st (lineNo raw x)).2 = false ∧ PSt n0 b0 b1 b2 b3 b4 bs raw (stepP st (lineNo raw x)).1 vF vV W) ∧ Below n0 w W
set_option maxRecDepth 100000 in
set_option maxHeartbeats 4000000 in
theorem header_Parse.calls (a0 : ByteArray) (r1 : List (S35)) (r2 : Int) (w : World) (h : header_Parse.f a0 = some (r1, r2)) :
    Calls Tryz.prog 22 #[.string a0] w fun e w' => ∃ v0_ : Value, e = .returned (.tuple #[v0_, .int .i64 r2]) ∧ Kd.R k35 35 w' w.heap.size (fun _ => True) v0_ r1 ∧ Below w.heap.size w w' := by
  unfold header_Parse.f at h
  split at h
  case isFalse => cases h
  case isTrue hsz =>
  injection h with h
  injection h with h1 h2
  subst h1 h2
  refine callsIn_wide.1 (callsIn_of_wp_marks (n := 10) Tryz.func22 rfl trivial ?_ rfl)
  simp only [Tryz.ntmps22, List.size_toArray, List.length_cons, List.length_nil, Nat.reduceAdd, Nat.reduceSub, Array.replicate_succ, Array.replicate_zero, List.push_toArray, List.append_toArray, List.nil_append, List.cons_append]
  gi_wp2_with (gi_at_call 60; refine (lines_in _ _ _).mono ?_; rintro e w' ⟨rfl, rfl⟩)
  obtain ⟨W0, hW0⟩ : ∃ W0, w0P w a0 = W0 := ⟨_, rfl⟩
  have hs0 := w0P_size w a0
  have hB0 := w0P_below w a0
  have hP0 := pst_start w a0
  rw [hW0] at hs0 hB0 hP0
  unfold w0P FIN ADD at hW0
  rw [hW0]
  clear hW0
  have hM : ∀ pre : List Nat, ∀ x ∈ pre.map (lineNo a0), x.con.size ≤ 8388608 := fun pre x hx => by
    obtain ⟨i, _, rfl⟩ := List.mem_map.1 hx
    exact Nat.le_trans (lineNo_con a0 i) hsz
  have hN : (linesOf a0).length ≤ 8388609 := Nat.le_trans (linesAt_length a0 _ _) (by omega)
  refine wpIn_rangeFunc_ownH rfl (by decide) (gf := 86) (lb := #[.pointer (some ⟨w.heap.size + 1 + 1 + 1 + 1 + 1, 0, none⟩)]) rfl trivial (enters_of Tryz.func86 (by kernel_rfl) rfl)
    (encs := fun i : Nat => encLine (lineNo a0 i)) (lines_stops 9 (w.heap.size + 1 + 1 + 1 + 1 + 1) a0 (by omega) W0 (by omega) hP0.cs) (Kp := fun W W' => W'.heap[w.heap.size + 1 + 1 + 1 + 1 + 1]? = W.heap[w.heap.size + 1 + 1 + 1 + 1 + 1]?) (fun {A B C} h k => Eq.trans k h) (fun W l o o' hl ho _ _ => World.putObj_heap_other (by omega)) (Below.refl _ _) (fun _ => rfl)
    (InvP w.heap.size w.heap.size (w.heap.size + 1) (w.heap.size + 1 + 1) (w.heap.size + 1 + 1 + 1) (w.heap.size + 1 + 1 + 1 + 1) (w.heap.size + 1 + 1 + 1 + 1 + 1) a0 w) (InvX w.heap.size w.heap.size (w.heap.size + 1) (w.heap.size + 1 + 1) (w.heap.size + 1 + 1 + 1) (w.heap.size + 1 + 1 + 1 + 1) (w.heap.size + 1 + 1 + 1 + 1 + 1) a0 w)
    ?ownI ?ownX ⟨⟨_, _, _, rfl, hP0⟩, hB0⟩
    (fun x a' W => ∃ Bx, W.heap[Bx]? = some (.cells #[.string (lineNo a0 x).con, .int .i64 ((lineNo a0 x).fr : Int), .int .i64 ((lineNo a0 x).un : Int)] 81 (0, 0)) ∧ a' = { tmps := #[Value.string a0, undef, Value.slice none 0 0, Value.int IntKind.i64 0, Value.pointer (some ⟨w.heap.size, 0, none⟩), Value.pointer (some ⟨w.heap.size + 1, 0, none⟩), Value.pointer (some ⟨w.heap.size + 1 + 1, 0, none⟩), Value.pointer (some ⟨w.heap.size + 1 + 1 + 1, 0, none⟩), Value.pointer (some ⟨w.heap.size + 1 + 1 + 1 + 1, 0, none⟩), Value.pointer (some ⟨Bx, 0, none⟩), undef, undef, undef, Value.func (Fn.func 57) #[] #[Value.pointer (some ⟨w.heap.size, 0, none⟩), Value.pointer (some ⟨w.heap.size + 1, 0, none⟩)], Value.func (Fn.func 59) #[] #[Value.pointer (some ⟨w.heap.size + 1, 0, none⟩)], Value.string a0, Value.func (Fn.func 86) #[] #[Value.pointer (some ⟨w.heap.size + 1 + 1 + 1 + 1 + 1, 0, none⟩)], Value.agg #[.string (lineNo a0 x).con, .int .i64 ((lineNo a0 x).fr : Int), .int .i64 ((lineNo a0 x).un : Int)], undef, undef, undef, undef, undef, undef, undef, undef, undef, undef, undef, undef, undef, undef, undef, undef, undef, undef, undef, undef, undef, undef, undef, undef, undef, undef, undef, undef, undef, undef, undef, undef, undef, undef, undef, undef, undef, undef, undef, undef, undef, undef, undef, undef, undef, undef, undef, undef, undef, undef, undef, undef, undef, undef, undef], defers := [] })
    ?ownA ?assign ?body ?done ?stop
  case ownI =>
    refine OwnFrom.and (fun pre X Y row hs hg hr => ?_) (ownFrom_below (Nat.le_refl _) (by omega))
    obtain ⟨st, vF, vV, h1, h2⟩ := hs
    exact ⟨st, vF, vV, h1, pst_own X Y row h2 hg (fun r e => (hr r e).2)⟩
  case ownX =>
    intro c
    refine OwnFrom.and (fun pre X Y row hs hg hr => ?_) (ownFrom_below (Nat.le_refl _) (by omega))
    obtain ⟨hc, pre0, x, st, vF, vV, e, h1, h2, h3⟩ := hs
    exact ⟨hc, pre0, x, st, vF, vV, e, h1, h2, pst_own X Y row h3 hg (fun r e => (hr r e).2)⟩
  case ownA =>
    rintro x a' _ X Y row ⟨Bx, h1, h2⟩ hg hr
    exact ⟨Bx, (grownBy_keeps_cells hg (fun r e => (hr r e).2) h1 rfl).trans h1, h2⟩
  case assign =>
    rintro l pre x W K ⟨⟨st, vF, vV, hgo, hP⟩, hB⟩ hK
    unfold encLine
    gi_wp2
    have hlt5 := (Array.getElem?_eq_some_iff.1 hP.cs).1
    exact hK _ _ ((KeepsOthers.alloc _ _).from _) (Lib.alloc_old W _ _ hlt5) ⟨⟨st, vF, vV, hgo, pst_own W _ none hP (World.grownBy_alloc W _ none) (fun r e => by cases e)⟩, hB.alloc hB.size _⟩ ⟨W.heap.size, World.alloc_heap_new _ _, rfl⟩
  case body =>
    rintro l pre x a' W hl ⟨r, hr⟩ ⟨⟨st, vF, vV, hgo, hP⟩, hB⟩ ⟨Bx, hX, rfl⟩ hlt
    obtain ⟨bV, bM, bF⟩ := goP_bd (hM pre) (k := 0) (st := ⟨[], [], 0⟩) ⟨Nat.le_refl _, (fun v hv => by cases hv), Nat.zero_le _⟩ hgo
    rw [List.length_map] at bV
    have hcon : (lineNo a0 x).con.size ≤ 8388608 := Nat.le_trans (lineNo_con a0 x) hsz
    have hsnoc := goP_snoc ⟨[], [], 0⟩ (pre.map (lineNo a0)) (lineNo a0 x)
    rw [hgo] at hsnoc
    have hmap : (pre ++ [x]).map (lineNo a0) = pre.map (lineNo a0) ++ [lineNo a0 x] := by simp
    have hn0 := hB.size
    have goes : ∀ W3 vF3 vV3 st3, Stp w.heap.size W W3 → stepP st (lineNo a0 x) = (st3, true) → PSt w.heap.size w.heap.size (w.heap.size + 1) (w.heap.size + 1 + 1) (w.heap.size + 1 + 1 + 1) (w.heap.size + 1 + 1 + 1 + 1) (w.heap.size + 1 + 1 + 1 + 1 + 1) a0 st3 vF3 vV3 W3 → ∀ act, ownPostG W0.heap.size (fun W W' => W'.heap[w.heap.size + 1 + 1 + 1 + 1 + 1]? = W.heap[w.heap.size + 1 + 1 + 1 + 1 + 1]?) (InvP w.heap.size w.heap.size (w.heap.size + 1) (w.heap.size + 1 + 1) (w.heap.size + 1 + 1 + 1) (w.heap.size + 1 + 1 + 1 + 1) (w.heap.size + 1 + 1 + 1 + 1 + 1) a0 w) (InvX w.heap.size w.heap.size (w.heap.size + 1) (w.heap.size + 1 + 1) (w.heap.size + 1 + 1 + 1) (w.heap.size + 1 + 1 + 1 + 1) (w.heap.size + 1 + 1 + 1 + 1 + 1) a0 w) (pre ++ [x]) W .normal act W3 := by
      intro W3 vF3 vV3 st3 h1 h2 h3 act
      refine ⟨h1.keeps _, h3.cs.trans hP.cs.symm, ⟨st3, vF3, vV3, ?_, h3⟩, hB.trans (h1.below hn0)⟩
      rw [hmap, hsnoc]
      show (if (stepP st (lineNo a0 x)).2 = true then some (stepP st (lineNo a0 x)).1 else none) = some st3
      rw [h2]
      rfl
    have stops : ∀ W3 vF3 vV3 st3, Stp w.heap.size W W3 → stepP st (lineNo a0 x) = (st3, false) → PSt w.heap.size w.heap.size (w.heap.size + 1) (w.heap.size + 1 + 1) (w.heap.size + 1 + 1 + 1) (w.heap.size + 1 + 1 + 1 + 1) (w.heap.size + 1 + 1 + 1 + 1 + 1) a0 st3 vF3 vV3 W3 → ∀ act, ownPostG W0.heap.size (fun W W' => W'.heap[w.heap.size + 1 + 1 + 1 + 1 + 1]? = W.heap[w.heap.size + 1 + 1 + 1 + 1 + 1]?) (InvP w.heap.size w.heap.size (w.heap.size + 1) (w.heap.size + 1 + 1) (w.heap.size + 1 + 1 + 1) (w.heap.size + 1 + 1 + 1 + 1) (w.heap.size + 1 + 1 + 1 + 1 + 1) a0 w) (InvX w.heap.size w.heap.size (w.heap.size + 1) (w.heap.size + 1 + 1) (w.heap.size + 1 + 1 + 1) (w.heap.size + 1 + 1 + 1 + 1) (w.heap.size + 1 + 1 + 1 + 1 + 1) a0 w) (pre ++ [x]) W (.exit 0) act W3 := by
      intro W3 vF3 vV3 st3 h1 h2 h3 act
      refine ⟨h1.keeps _, ⟨rfl, pre, x, st, vF3, vV3, rfl, hgo, by rw [h2], by rw [h2]; exact h3⟩, hB.trans (h1.below hn0)⟩
    obtain ⟨con, fr, un, hline⟩ : ∃ con fr un, lineNo a0 x = ⟨con, fr, un⟩ := ⟨_, _, _, rfl⟩
    rw [hline] at hX hcon goes stops
    simp only [hline]
    dsimp only at hX hcon
    clear hsnoc hmap hline hgo
    obtain ⟨AF, cF, rfl⟩ := own_slice hP.oF
    have cX0 : W.cell? ⟨Bx, 0, none⟩ = some (.string con) := by simp [World.cell?, hX]
    have cX2 : W.cell? ⟨Bx, 2, none⟩ = some (.int .i64 (un : Int)) := by simp [World.cell?, hX]
    have cP0 : W.cell? ⟨w.heap.size, 0, none⟩ = some (.slice AF st.fs.length cF) := by simp [World.cell?, hP.c0]
    have cP2 : W.cell? ⟨w.heap.size + 1 + 1, 0, none⟩ = some (.func (.func 57) #[] #[.pointer (some ⟨w.heap.size, 0, none⟩), .pointer (some ⟨w.heap.size + 1, 0, none⟩)]) := by simp [World.cell?, hP.c2, FIN]
    have cP3 : W.cell? ⟨w.heap.size + 1 + 1 + 1, 0, none⟩ = some (.func (.func 59) #[] #[.pointer (some ⟨w.heap.size + 1, 0, none⟩)]) := by simp [World.cell?, hP.c3, ADD]
    have fP4 : W.frozen? ⟨w.heap.size + 1 + 1 + 1 + 1, 0, none⟩ = false := by simp [World.frozen?, hP.c4]
    have cP4 : W.cell? ⟨w.heap.size + 1 + 1 + 1 + 1, 0, none⟩ = some (.int .i64 (st.en : Int)) := by simp [World.cell?, hP.c4]
    have HP := Aside0.mk hP
    have HX := Aside0.mk hX
    have GO := Aside0.mk goes
    have ST := Aside0.mk stops
    clear hP hX goes stops
    by_cases z : con.size = 0
    · have hve : con.toList.isEmpty = true := by rw [toList_bl, List.isEmpty_iff_length_eq_zero, bl_length]; exact z
      have E : stepP st ⟨con, fr, un⟩ = (⟨st.fs, st.vs, un⟩, false) := by unfold stepP; rw [if_pos z]
      have HE := Aside0.mk E
      clear E z
      gi_wp2
      obtain ⟨h1, h2⟩ := en_ps HP.out (by omega) un
      exact ST.out _ _ _ _ h2 HE.out h1 _
    · have hvf : con.toList.isEmpty = false := by
        rw [toList_bl]
        cases h : bl con with
        | nil => exfalso; apply z; rw [← bl_length, h]; rfl
        | cons _ _ => rfl
      have k0 : ∀ hh, con[0]'hh = byteAt con 0 := fun hh => byteAt_get con 0 hh
      have hp : 0 < con.size := by omega
      have hpI : (0 : Int) < (con.size : Int) := by omega
      have b256 : (byteAt con 0).toNat < 256 := (byteAt con 0).toNat_lt
      have HBL := Aside0.mk (blank_at (byteAt con 0))
      by_cases hq : blankB (byteAt con 0) = true ∧ 0 < st.fs.length
      · have E : stepP st ⟨con, fr, un⟩ = (⟨st.fs, addV st.vs con, un⟩, true) := by unfold stepP; rw [if_neg z, if_pos hq]
        obtain ⟨hq1, hq2⟩ := hq
        have HE := Aside0.mk E
        have HQ := Aside0.mk hq1
        have hq3 : (0 : Int) < (st.fs.length : Int) := by omega
        clear E hq1 z
        gi_wp2_with fail
        refine (CallsIn.inRound l (callsIn_wide.2 (header_blank.calls _ _ _ HBL.out))).mono ?_
        rintro e w1 ⟨rfl, ⟨nd, rfl⟩⟩
        rw [HQ.out]
        gi_wp2_with fail
        refine (CallsIn.inRound l (callsIn_wide.2 (add_ps (pst_drewN HP.out nd) (by omega) con (by omega) (by omega) hn0))).mono ?_
        rintro e W1 ⟨rfl, ⟨vV1, hP1⟩, hS1⟩
        have hS2 := (((Stp.refl w.heap.size W).drewN nd).trans hS1)
        have hX1 := hS2.lv HX.out
        have cX2' : W1.cell? ⟨Bx, 2, none⟩ = some (.int .i64 (un : Int)) := by simp [World.cell?, hX1]
        have fP4' : W1.frozen? ⟨w.heap.size + 1 + 1 + 1 + 1, 0, none⟩ = false := by simp [World.frozen?, hP1.c4]
        have cP4' : W1.cell? ⟨w.heap.size + 1 + 1 + 1 + 1, 0, none⟩ = some (.int .i64 (st.en : Int)) := by simp [World.cell?, hP1.c4]
        have HP1 := Aside0.mk hP1
        have HS2 := Aside0.mk hS2
        clear hP1 hS1 hS2 hX1
        gi_wp2_with fail
        obtain ⟨h1, h2⟩ := en_ps HP1.out (by omega) un
        exact GO.out _ _ _ _ (HS2.out.trans h2) HE.out h1 _
      · obtain ⟨nm, re, fd, hcut⟩ : ∃ nm re fd, cutAt con 58 = (nm, re, fd) := ⟨_, _, _, rfl⟩
        have hsz2 := cutAt_two con 58
        rw [hcut] at hsz2
        dsimp only at hsz2
        obtain ⟨hs1, hs2⟩ := hsz2
        have hcf : strings_Cut.f con ⟨#[58]⟩ = some (nm, re, fd) := by
          unfold strings_Cut.f
          rw [if_pos ⟨by omega, rfl⟩]
          exact congrArg some hcut
        have HCF := Aside0.mk hcf
        have E : stepP st ⟨con, fr, un⟩ = if fd = false ∨ isNameB nm = false ∨ 400 ≤ st.fs.length then (st, false) else (⟨doneF st.fs st.vs ++ [⟨nm, ⟨#[]⟩⟩], addV [] re, un⟩, true) := by
          unfold stepP
          rw [if_neg z, if_neg hq, hcut]
        obtain ⟨kn, hkn⟩ := (isName_ev nm (by omega)).rounds
        have HN2 := Aside0.mk hkn
        clear hcf hcut hkn
        have both : (∃ bb, Aside0 (blankB (byteAt con 0) = bb) ∧ bb = false) ∨ (Aside0 (blankB (byteAt con 0) = true) ∧ st.fs.length = 0) := by
          cases hb : blankB (byteAt con 0) with
          | false => exact .inl ⟨false, .mk rfl, rfl⟩
          | true => exact .inr ⟨.mk rfl, by
              rcases Nat.eq_zero_or_pos st.fs.length with h | h
              · exact h
              · exact absurd ⟨hb, h⟩ hq⟩
        clear hq z
        have dI : ∀ (m : Nat), IntKind.i64.wrap (m : Int) = IntKind.i64.wrap (m : Int) := fun _ => rfl
        clear dI
        rcases Bool.eq_false_or_eq_true fd with rfl | rfl
        case inr =>
          rw [if_pos (.inl rfl)] at E
          have HE := Aside0.mk E
          clear E
          rcases both with ⟨bb, HQ, rfl⟩ | ⟨HQ, hq0⟩
          case' inr => rw [hq0] at cP0
          all_goals
            gi_wp2_with fail
            refine (CallsIn.inRound l (callsIn_wide.2 (header_blank.calls _ _ _ HBL.out))).mono ?_
            rintro e w1 ⟨rfl, ⟨nd, rfl⟩⟩
            rw [HQ.out]
            gi_wp2_with fail
            refine (CallsIn.inRound l (callsIn_wide.2 (strings_Cut.calls _ _ _ _ _ _ HCF.out))).mono ?_
            rintro e w1 ⟨rfl, ⟨nd2, rfl⟩⟩
            gi_wp2_with fail
            exact ST.out _ _ _ _ ((Stp.refl w.heap.size W).drewN _) HE.out (pst_drewN HP.out _) _
        case inl =>
        rcases Bool.eq_false_or_eq_true (isNameB nm) with hnm | hnm
        case inr =>
          rw [if_pos (.inr (.inl hnm))] at E
          have HE := Aside0.mk E
          rw [hnm] at HN2
          clear E hnm
          rcases both with ⟨bb, HQ, rfl⟩ | ⟨HQ, hq0⟩
          case' inr => rw [hq0] at cP0
          all_goals
            gi_wp2_with fail
            refine (CallsIn.inRound l (callsIn_wide.2 (header_blank.calls _ _ _ HBL.out))).mono ?_
            rintro e w1 ⟨rfl, ⟨nd, rfl⟩⟩
            rw [HQ.out]
            gi_wp2_with fail
            refine (CallsIn.inRound l (callsIn_wide.2 (strings_Cut.calls _ _ _ _ _ _ HCF.out))).mono ?_
            rintro e w1 ⟨rfl, ⟨nd2, rfl⟩⟩
            gi_wp2_with fail
            refine (CallsIn.inRound l (callsIn_wide.2 (header_isName.calls kn _ _ _ HN2.out))).mono ?_
            rintro e w1 ⟨rfl, ⟨nd3, rfl⟩⟩
            gi_wp2_with fail
            exact ST.out _ _ _ _ ((Stp.refl w.heap.size W).drewN _) HE.out (pst_drewN HP.out _) _
        case inl =>
        rw [hnm] at HN2
        rcases Nat.lt_or_ge st.fs.length 400 with h4 | h4
        case inr =>
          rw [if_pos (.inr (.inr h4))] at E
          have HE := Aside0.mk E
          have h4I : (400 : Int) ≤ (st.fs.length : Int) := by omega
          clear E hnm
          rcases both with ⟨bb, HQ, rfl⟩ | ⟨HQ, hq0⟩
          case' inr => omega
          all_goals
            gi_wp2_with fail
            refine (CallsIn.inRound l (callsIn_wide.2 (header_blank.calls _ _ _ HBL.out))).mono ?_
            rintro e w1 ⟨rfl, ⟨nd, rfl⟩⟩
            rw [HQ.out]
            gi_wp2_with fail
            refine (CallsIn.inRound l (callsIn_wide.2 (strings_Cut.calls _ _ _ _ _ _ HCF.out))).mono ?_
            rintro e w1 ⟨rfl, ⟨nd2, rfl⟩⟩
            gi_wp2_with fail
            refine (CallsIn.inRound l (callsIn_wide.2 (header_isName.calls kn _ _ _ HN2.out))).mono ?_
            rintro e w1 ⟨rfl, ⟨nd3, rfl⟩⟩
            gi_wp2_with fail
            exact ST.out _ _ _ _ ((Stp.refl w.heap.size W).drewN _) HE.out (pst_drewN HP.out _) _
        case inl =>
        have h4N : ¬ 400 ≤ st.fs.length := by omega
        rw [if_neg (by rintro (h | h | h) <;> first | (cases h; done) | (rw [hnm] at h; cases h; done) | omega)] at E
        have HE := Aside0.mk E
        have h4I : ¬ (400 : Int) ≤ (st.fs.length : Int) := by omega
        have h4J : (st.fs.length : Int) < 400 := by omega
        have hjs : (joinS st.vs).size ≤ 140737488355328 := by
          refine Nat.le_trans (joinS_size bM) (Nat.le_trans (Nat.mul_le_mul_right _ (show st.vs.length ≤ 8388609 by omega)) (by decide))
        obtain ⟨i0, hi, hz0, hz1, hz2⟩ := info_parts info35
        clear E hnm
        rcases both with ⟨bb, HQ, rfl⟩ | ⟨HQ, hq0⟩
        case' inr => rw [hq0] at cP0; clear hq0
        all_goals
          gi_wp2_with fail
          refine (CallsIn.inRound l (callsIn_wide.2 (header_blank.calls _ _ _ HBL.out))).mono ?_
          rintro e w1 ⟨rfl, ⟨nd, rfl⟩⟩
          rw [HQ.out]
          gi_wp2_with fail
          refine (CallsIn.inRound l (callsIn_wide.2 (strings_Cut.calls _ _ _ _ _ _ HCF.out))).mono ?_
          rintro e w1 ⟨rfl, ⟨nd2, rfl⟩⟩
          gi_wp2_with fail
          refine (CallsIn.inRound l (callsIn_wide.2 (header_isName.calls kn _ _ _ HN2.out))).mono ?_
          rintro e w1 ⟨rfl, ⟨nd3, rfl⟩⟩
          gi_wp2_with fail
          refine (CallsIn.inRound l (callsIn_wide.2 (fin_ps (pst_drewN HP.out _) (Nat.le_refl _) (by omega) (by omega) (by omega) hjs hn0))).mono ?_
          rintro e W1 ⟨rfl, hP1, hS1⟩
          have hS2 := (((Stp.refl w.heap.size W).drewN _).trans hS1)
          have hX1 := hS2.lv HX.out
          have cX2' : W1.cell? ⟨Bx, 2, none⟩ = some (.int .i64 (un : Int)) := by simp [World.cell?, hX1]
          have cP0' : W1.cell? ⟨w.heap.size, 0, none⟩ = some (.slice AF st.fs.length cF) := by simp [World.cell?, hP1.c0]
          have hn1 : w.heap.size ≤ W1.heap.size := Nat.le_trans hn0 hS2.size
          have HP1 := Aside0.mk hP1
          have HS2 := Aside0.mk hS2
          clear hP1 hS1 hS2 hX1
          have hfl := doneF_length st.fs st.vs
          have hoF := HP1.out.oF
          dsimp only at hoF
          rw [hfl] at hoF
          gi_wp2_with (gi_at_builtin; refine wpListIn_append_own _ rfl _ _ 33 rfl w.heap.size 35 i0 (.agg #[(.string ⟨#[]⟩), (.string ⟨#[]⟩)]) 2 32 Tryz.underlying33 hi hz0 hz1 hz2 rfl (by decide) _ _ _ rfl (hoF.alloc _) ⟨W1.heap.size, 0, none⟩ 1 1 [.string nm, .string ⟨#[]⟩] rfl rfl ?c1 ?c2 ?c3 ?c4 ?c5 ?_)
          case c1 =>
            intro j u hj
            match j, hj with
            | 0, hj => simp at hj; subst hj; exact World.cell?_alloc_new W1 _ _ _
            | 1, hj => simp at hj; subst hj; exact World.cell?_alloc_new W1 _ _ _
          case c2 => intro u hu; simp at hu; rcases hu with rfl | rfl <;> rfl
          case c3 => unfold maxLen; omega
          case c4 => omega
          case c5 => simp; omega
          intro v' w2 hown' hgrow _
          obtain ⟨gv, capv, rfl⟩ := ownsRow_succ hown'
          have hown2 := hown'
          rw [← hfl] at hown2
          obtain ⟨k1, k2, k3, k4⟩ := app_ps HP1.out (Nat.le_refl _) hn1 hown2 hgrow
          rw [hfl] at k3 k4
          have HK3 := Aside0.mk k3
          have HK4 := Aside0.mk (HS2.out.trans k4)
          have cA3 : (w2.setCell ⟨w.heap.size, 0, none⟩ (.slice (some ⟨gv, 0, none⟩) (st.fs.length + 1) capv)).cell? ⟨w.heap.size + 1 + 1 + 1, 0, none⟩ = some (.func (.func 59) #[] #[.pointer (some ⟨w.heap.size + 1, 0, none⟩)]) := cell_of k3.c3 rfl
          have hn2 := HK4.out.size
          have hX3 := HK4.out.lv HX.out
          have cX4 : (w2.setCell ⟨w.heap.size, 0, none⟩ (.slice (some ⟨gv, 0, none⟩) (st.fs.length + 1) capv)).cell? ⟨Bx, 2, none⟩ = some (.int .i64 (un : Int)) := cell_of hX3 rfl
          clear hown' hown2 hgrow k3 k4 hoF hX3
          gi_wp2_with fail
          refine (CallsIn.inRound l (callsIn_wide.2 (add_ps HK3.out (by omega) re (by omega) (Nat.zero_le _) (Nat.le_trans hn0 hn2)))).mono ?_
          rintro e W5 ⟨rfl, ⟨vV5, hP5⟩, hS5⟩
          have hS6 := HK4.out.trans hS5
          have hX6 := hS6.lv HX.out
          have cX6 : W5.cell? ⟨Bx, 2, none⟩ = some (.int .i64 (un : Int)) := cell_of hX6 rfl
          have fP6 : W5.frozen? ⟨w.heap.size + 1 + 1 + 1 + 1, 0, none⟩ = false := frozen_of hP5.c4
          have cP6 : W5.cell? ⟨w.heap.size + 1 + 1 + 1 + 1, 0, none⟩ = some (.int .i64 (st.en : Int)) := cell_of hP5.c4 rfl
          have HP5 := Aside0.mk hP5
          have HS6 := Aside0.mk hS6
          clear hP5 hS5 hS6 hX6
          gi_wp2_with fail
          obtain ⟨h1, h2⟩ := en_ps HP5.out (by omega) un
          exact GO.out _ _ _ _ (HS6.out.trans h2) HE.out h1 _
  case' done =>
    rintro D zs W hD hS ⟨⟨st, vF, vV, hgo, hP⟩, hB⟩ hK
    have hz : zs.length ≤ 8388609 := by rw [← List.length_map (f := lineNo a0), hS]; exact hN
    obtain ⟨bV, bM, bF⟩ := goP_bd (hM zs) (k := 0) (st := ⟨[], [], 0⟩) ⟨Nat.le_refl _, (fun v hv => by cases hv), Nat.zero_le _⟩ hgo
    rw [List.length_map] at bV
    replace bV : st.vs.length ≤ 8388610 := by omega
    have hfo := foldP_of_goP hgo
    rw [hS] at hfo
    clear hgo hS hz
  case' stop =>
    rintro D c pre W hD hS ⟨⟨rfl, pre0, x, st0, vF, vV, rfl, hgo, hx2, hP⟩, hB⟩ hK
    have hz : (pre0 ++ [x]).length ≤ 8388609 := by rw [← List.length_map (f := lineNo a0)]; exact Nat.le_trans hS.length_le hN
    obtain ⟨rest, hrest⟩ := hS
    have hbd := goP_bd (hM pre0) (k := 0) (st := ⟨[], [], 0⟩) ⟨Nat.le_refl _, (fun v hv => by cases hv), Nat.zero_le _⟩ hgo
    have hbd2 := stepP_bd (x := lineNo a0 x) hbd (Nat.le_trans (lineNo_con a0 x) hsz)
    have hfo := foldP_stop (rest := rest) hgo hx2
    rw [List.map_append, List.map_cons, List.map_nil] at hrest
    rw [hrest] at hfo
    generalize (stepP st0 (lineNo a0 x)).1 = st at *
    obtain ⟨bV, bM, bF⟩ := hbd2
    rw [List.length_map] at bV
    rw [List.length_append, List.length_singleton] at hz
    replace bV : st.vs.length ≤ 8388610 := by omega
    clear hgo hx2 hz hrest hbd
  all_goals
    have hn0 := hB.size
    have hjs : (joinS st.vs).size ≤ 140737488355328 := by
      refine Nat.le_trans (joinS_size bM) (Nat.le_trans (Nat.mul_le_mul_right _ bV) (by decide))
    have cP2 : W.cell? ⟨w.heap.size + 1 + 1, 0, none⟩ = some (.func (.func 57) #[] #[.pointer (some ⟨w.heap.size, 0, none⟩), .pointer (some ⟨w.heap.size + 1, 0, none⟩)]) := cell_of hP.c2 rfl
    have HP := Aside0.mk hP
    have HB := Aside0.mk hB
    have HK := Aside0.mk hK
    have HF := Aside0.mk hfo
    clear hP hB hK hfo
    gi_wp2_with fail
    refine (callsIn_wide.2 (fin_ps HP.out (Nat.le_refl _) (by omega) (by omega) (by omega) hjs hn0)).mono ?_
    rintro e W1 ⟨rfl, hP1, hS1⟩
    obtain ⟨AF, cF, rfl⟩ := own_slice hP1.oF
    have c0' : W1.cell? ⟨w.heap.size, 0, none⟩ = some (.slice AF (doneF st.fs st.vs).length cF) := cell_of hP1.c0 rfl
    have c4' : W1.cell? ⟨w.heap.size + 1 + 1 + 1 + 1, 0, none⟩ = some (.int .i64 (st.en : Int)) := cell_of hP1.c4 rfl
    have hK' := (hS1.keeps W0.heap.size).same D _ hD HK.out rfl
    have HP1 := Aside0.mk hP1
    have HS1 := Aside0.mk hS1
    have HK' := Aside0.mk hK'
    clear hP1 hS1 hK'
    gi_wp2_with fail
    have hmx : Tryz.prog.follows .mixedOrders = true := by kernel_rfl
    gi_region
    gi_wp2
    have hK2 : W1.drew.heap[D]? = some (.deferred (some [])) := HK'.out
    refine ⟨by simp, .inl ⟨D, _, rfl, run_takeDeferred hK2, ?_⟩⟩
    have hps : parseS a0 = (doneF st.fs st.vs, st.en) := by unfold parseS; rw [HF.out]
    have hP2 := pst_own _ _ (some D) (pst_drewN HP1.out 1) (grownBy_putObj' W1.drew D (.deferred none)) (fun r e => by cases e; exact ⟨_, hK2, rfl⟩)
    have hbel : Below w.heap.size w (W1.drew.putObj D (.deferred none)) := (HB.out.trans ((HS1.out.drewN 1).below hn0)).trans (belowK_b (w := w) (Nat.le_refl _) _ D _ _ (by omega) hK2 rfl rfl)
    rw [hps]
    exact ⟨_, by simp [results, Tryz.f22, go_sem], _, rfl, pst_result hP2, hbel⟩
end Go.Proofs.YtieompfmhnpnaaaGreat.H
end
section
namespace Go.Proofs.YtieompfmhnpnaaaGreat.H
open Go.RowKit Go.Proofs.YtieompfmhnpnaaaGreatW.PrintWords Go.Proofs.YtieompfmhnpnaaaGreatW.PrintLast Go.Proofs.YtieompfmhnpnaaaGreatW.PrintMore
set_option linter.unusedVariables false
set_option linter.unusedSimpArgs false
abbrev muLink : Go.Conc.Locks.MuLink := { lock := 104, unlock := 105, ilock := 111, iunlock := 112, lockSlow := 121, unlockSlow := 124, disable := 117, enable := 119, acquire := 120, relMerge := 122, cas32 := 118, add32 := 123, tMutex := 99, tIMutex := 97, tPMutex := 137, tPIMutex := 151, tPI32 := 153, tUP := 112, tNoCopy := 91, tU32 := 93 }
theorem muLib : Go.Conc.Locks.MuLib Tryz.prog muLink :=
  ⟨Tryz.func104, Tryz.func105, Tryz.func111, Tryz.func112, Tryz.func117, Tryz.func119, Tryz.func120, Tryz.func122, Tryz.func118, Tryz.func123, Tryz.underlying97, Tryz.runUnderlying97, Tryz.sizeOf97, Tryz.isAgg97, Tryz.zeroValue97, Tryz.underlying99, Tryz.runUnderlying99, Tryz.sizeOf99, Tryz.isAgg99, Tryz.zeroValue99, Tryz.underlying137, Tryz.runUnderlying137, Tryz.sizeOf137, Tryz.isAgg137, Tryz.zeroValue137, Tryz.underlying151, Tryz.runUnderlying151, Tryz.sizeOf151, Tryz.isAgg151, Tryz.zeroValue151, Tryz.underlying153, Tryz.runUnderlying153, Tryz.sizeOf153, Tryz.isAgg153, Tryz.zeroValue153, Tryz.underlying112, Tryz.runUnderlying112, Tryz.sizeOf112, Tryz.isAgg112, Tryz.zeroValue112, Tryz.underlying91, Tryz.runUnderlying91, Tryz.sizeOf91, Tryz.isAgg91, Tryz.zeroValue91, Tryz.underlying21, Tryz.runUnderlying21, Tryz.sizeOf21, Tryz.isAgg21, Tryz.zeroValue21, (by kernel_rfl)⟩
theorem store_deferred (a : Addr) (x : Value) (u : FrameMode) (w : World) (hc : w.cell? a = some x) (hz : w.frozen? a = false) :
    CallsD Tryz.prog 106 #[.pointer (some a), .bool true] u w fun e u' w' => u' = u ∧ (e = .returned (.tuple #[]) ∧ w' = w.drew.setCell a (.int .u32 1)) := by
  have hc' : w.drew.cell? a = some x := by go_simp
  have hz' : w.drew.frozen? a = false := by go_simp
  have hst := run_call_store (P := Tryz.prog) Tryz.func113 (by kernel_rfl) (by kernel_rfl) (by kernel_rfl) (by kernel_rfl) (k := .u32) (y := 1) hc' hz'
  go_enter_d Tryz.func106, Tryz.ntmps106
  go_wp2
  go_region_calls
  all_goals (go_end0; exact ⟨rfl, rfl⟩)
theorem load_false (a : Addr) (w : World) (hc : w.cell? a = some (.int .u32 0)) :
    Calls Tryz.prog 93 #[.pointer (some a)] w fun e w' => e = .returned (.bool false) ∧ w = w' := by
  have hl := run_call_load (P := Tryz.prog) Tryz.func103 (by kernel_rfl) (by kernel_rfl) (by kernel_rfl) .u32 (by kernel_rfl) hc
  go_enter Tryz.func93, Tryz.ntmps93
  go_wp2
  go_ret
  exact ⟨rfl, rfl⟩
structure Fresh (w : World) (g : Nat) : Prop where
  done : w.cell? ⟨g, 0, none⟩ = some (.int .u32 0)
  state : w.cell? ⟨g, 1, none⟩ = some (.int .i32 0)
  f0 : w.frozen? ⟨g, 0, none⟩ = false
  f1 : w.frozen? ⟨g, 1, none⟩ = false
structure Held (w : World) (g : Nat) : Prop where
  done : w.cell? ⟨g, 0, none⟩ = some (.int .u32 0)
  state : w.cell? ⟨g, 1, none⟩ = some (.int .i32 1)
  f0 : w.frozen? ⟨g, 0, none⟩ = false
  f1 : w.frozen? ⟨g, 1, none⟩ = false
theorem Fresh.locked {w : World} {g : Nat} (h : Fresh w g) : Held (w.setCell ⟨g, 1, none⟩ (.int .i32 1)) g :=
  ⟨(World.cell?_setCell_other _ ⟨g, 1, none⟩ ⟨g, 0, none⟩ _ (by simp)).trans h.done, World.cell?_setCell_same _ _ _ h.state, by rw [World.frozen?_setCell]; exact h.f0, by rw [World.frozen?_setCell]; exact h.f1⟩
set_option maxRecDepth 100000 in
set_option maxHeartbeats 1600000 in
theorem slow_any (g : Nat) (w : World) (h : Fresh w g) (Q : World → Prop)
    (hfn : Calls Tryz.prog 81 #[.pointer (some ⟨g, 0, none⟩)] (w.setCell ⟨g, 1, none⟩ (.int .i32 1)) fun e w' => e = .returned (.tuple #[]) ∧ Held w' g ∧ Q w') :
    Calls Tryz.prog 94 #[.pointer (some ⟨g, 0, none⟩), .func (.func 81) #[.pointer (some ⟨g, 0, none⟩)] #[]] w fun e w' => e = .returned (.tuple #[]) ∧
      ∃ w2, Q w2 ∧ w' = (w2.drew.setCell ⟨g, 0, none⟩ (.int .u32 1)).setCell ⟨g, 1, none⟩ (.int .i32 0) := by
  have HFN := Aside0.mk hfn
  have HQ := h.locked
  obtain ⟨q0, q1, q2, q3⟩ := HQ
  obtain ⟨p0, p1, p2, p3⟩ := h
  have hnot : ∀ (x : Bool) (w : World), (Op.unary .not (.bool x)).run Tryz.prog w = .ok (.bool (!x)) w := fun _ _ => rfl
  clear hfn
  go_enter_defers Tryz.func94, Tryz.ntmps94
  go_wp2_with (go_at_call 104; refine (Go.MuLone.lock_free muLib ⟨g, 1, none⟩ _ p1 p3).mono ?_; rintro e w' ⟨rfl, rfl⟩)
  refine (load_false ⟨g, 0, none⟩ _ q0).mono ?_
  rintro e w' ⟨rfl, rfl⟩
  go_wp2_with fail
  refine (HFN.out).mono ?_
  rintro e w2 ⟨rfl, hh, hq⟩
  obtain ⟨r0, r1, r2, r3⟩ := hh
  go_wp2_with fail
  refine leaves_cons (f := 106) (args := #[.pointer (some ⟨g, 0, none⟩), .bool true]) (by simp) (by simp [go_sem]) ?_
  refine (store_deferred ⟨g, 0, none⟩ (.int .u32 0) .returning _ r0 r2).mono ?_
  rintro e u' w'' ⟨rfl, rfl, rfl⟩
  refine leaves_cons (f := 105) (args := #[.pointer (some ⟨g, 1, none⟩)]) (by simp [settle]) (by simp [go_sem]) ?_
  refine (Go.MuLone.unlock_deferred muLib ⟨g, 1, none⟩ _ _ ?_ (by simp [r3])).mono ?_
  · refine (World.cell?_setCell_other _ ⟨g, 0, none⟩ ⟨g, 1, none⟩ _ (by simp)).trans ?_
    rw [World.cell?_drew]
    exact r1
  rintro e u' w'' ⟨rfl, rfl, rfl⟩
  simp [Leaves, settle, results, Tryz.results94]
  exact ⟨_, hq, rfl⟩
set_option maxRecDepth 100000 in
set_option maxHeartbeats 1600000 in
theorem do_first (g : Nat) (w : World) (h : Fresh w g) (Q : World → Prop)
    (hfn : Calls Tryz.prog 81 #[.pointer (some ⟨g, 0, none⟩)] (w.setCell ⟨g, 1, none⟩ (.int .i32 1)) fun e w' => e = .returned (.tuple #[]) ∧ Held w' g ∧ Q w') :
    Calls Tryz.prog 80 #[.pointer (some ⟨g, 0, none⟩), .func (.func 81) #[.pointer (some ⟨g, 0, none⟩)] #[]] w fun e w' => e = .returned (.tuple #[]) ∧
      ∃ w2, Q w2 ∧ w' = (w2.drew.setCell ⟨g, 0, none⟩ (.int .u32 1)).setCell ⟨g, 1, none⟩ (.int .i32 0) := by
  have HFN := Aside0.mk hfn
  have HH := Aside0.mk h
  have hd := h.done
  have hnot : ∀ (x : Bool) (w : World), (Op.unary .not (.bool x)).run Tryz.prog w = .ok (.bool (!x)) w := fun _ _ => rfl
  clear hfn h
  go_enter Tryz.func80, Tryz.ntmps80
  go_wp2_with fail
  refine (load_false ⟨g, 0, none⟩ _ hd).mono ?_
  rintro e w' ⟨rfl, rfl⟩
  go_wp2_with fail
  refine (slow_any g _ HH.out Q HFN.out).mono ?_
  rintro e w' ⟨rfl, hq⟩
  have HQ := Aside0.mk hq
  clear hq
  go_wp2_with fail
  go_end0
  exact ⟨rfl, HQ.out⟩
end Go.Proofs.YtieompfmhnpnaaaGreat.H
end
