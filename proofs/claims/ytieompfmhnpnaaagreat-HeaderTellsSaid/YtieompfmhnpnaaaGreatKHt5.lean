/- The law HeaderTells: whatever the input, it answers true, and each argument reads as it read. No condition. -/
import Derived.Test.YtieompfmhnpnaaaGreatKHt4
import Derived.Deep.SlicePairs
import Derived.SizedLaws
import Derived.ChangeArms
import Derived.Carry
import Derived.Test.YtieompfmhnpnaaaGreatRows
import Derived.WalkKit
import Derived.ProofKit
import Derived.OpenShut
import Derived.ShutString
import Derived.ChangeOld
import Derived.Below
section
namespace Go.Proofs.YtieompfmhnpnaaaGreat.H
open Go.RowKit Go.Proofs.YtieompfmhnpnaaaGreatW.PrintWords Go.Proofs.YtieompfmhnpnaaaGreatW.PrintLast Go.Proofs.YtieompfmhnpnaaaGreatW.PrintMore
attribute [local go_sem] max2_int min2_int max_two min_two max_three min_three max_four min_four
set_option linter.unusedVariables false
set_option linter.unusedSimpArgs false
mutual
def missivelaw09_HeaderTells.j0 : Nat → ByteArray → List (S35) → ByteArray → ByteArray → Bool → Bool → Option (Bool)
  | 0, _, _, _, _, _, _ => none
  | k + 1, x0, x1, x2, x3, x9, x36 => if x36 = true then (some x9) else ((header_Parse.f x0).bind fun bt384 => ((missiveref09_Parse.f k x0).bind fun bt388 => (if bt384.2 = bt388.2 then ((missiveref09_Same.f k bt384.1 bt388.1).bind fun t392 => (if t392 = true then ((header_Write.f x1).bind fun t393 => ((missiveref09_Write.f k x1).bind fun t394 => (missivelaw09_HeaderTells.j1 k x1 x2 x3 x9 (t393.toList != t394.toList)))) else (missivelaw09_HeaderTells.j1 k x1 x2 x3 x9 true))) else (missivelaw09_HeaderTells.j1 k x1 x2 x3 x9 true))))
def missivelaw09_HeaderTells.j1 : Nat → List (S35) → ByteArray → ByteArray → Bool → Bool → Option (Bool)
  | 0, _, _, _, _, _ => none
  | k + 1, x1, x2, x3, x9, x63 => if x63 = true then (some false) else ((header_Get.f k x1 x2).bind fun bt395 => ((missiveref09_Get.f k x1 x2).bind fun bt397 => (if bt395.1.toList = bt397.1.toList then (if (bt395.2 != bt397.2) = true then (missivelaw09_HeaderTells.j2 k x1 x2 x3 x9 true) else ((header_All.f k x1 x2).bind fun t399 => ((missiveref09_All.f k x1 x2).bind fun t402 => ((missiveref09_SameTexts.f k t399 t402).bind fun t405 => (missivelaw09_HeaderTells.j2 k x1 x2 x3 x9 (!t405)))))) else (missivelaw09_HeaderTells.j2 k x1 x2 x3 x9 true))))
def missivelaw09_HeaderTells.j2 : Nat → List (S35) → ByteArray → ByteArray → Bool → Bool → Option (Bool)
  | 0, _, _, _, _, _ => none
  | k + 1, x1, x2, x3, x9, x93 => if x93 = true then (some false) else (if x9 = true then ((header_Set.f k x1 x2 x3).bind fun t406 => ((missiveref09_Set.f k x1 x2 x3).bind fun t409 => ((missiveref09_Same.f k t406 t409).bind fun t412 => (if t412 = true then ((header_Drop.f k x1 x2).bind fun t413 => ((missiveref09_Drop.f k x1 x2).bind fun t416 => ((missiveref09_Same.f k t413 t416).bind fun t419 => (some t419)))) else (some false))))) else (some false))
end
def missivelaw09_HeaderTells.f (k : Nat) (a0 : ByteArray) (l1 : List (S35)) (a2 : ByteArray) (a3 : ByteArray) : Option (Bool) := (missivelaw09_small.f k).bind fun t382 => (if (a0.size : Int) > 6000 then (missivelaw09_HeaderTells.j0 k a0 l1 a2 a3 t382 true) else ((missivelaw09_few.f k l1).bind fun t383 => (if t383 = true then (if (a2.size : Int) > 1000 then (missivelaw09_HeaderTells.j0 k a0 l1 a2 a3 t382 true) else (missivelaw09_HeaderTells.j0 k a0 l1 a2 a3 t382 (decide ((a3.size : Int) > 1000)))) else (missivelaw09_HeaderTells.j0 k a0 l1 a2 a3 t382 true))))
theorem missivelaw09_HeaderTells.mono_l : ∀ k, (∀ y0 y1 y2 y3 y4 y5, LeO (missivelaw09_HeaderTells.j0 k y0 y1 y2 y3 y4 y5) (missivelaw09_HeaderTells.j0 (k + 1) y0 y1 y2 y3 y4 y5)) ∧ (∀ y0 y1 y2 y3 y4, LeO (missivelaw09_HeaderTells.j1 k y0 y1 y2 y3 y4) (missivelaw09_HeaderTells.j1 (k + 1) y0 y1 y2 y3 y4)) ∧ (∀ y0 y1 y2 y3 y4, LeO (missivelaw09_HeaderTells.j2 k y0 y1 y2 y3 y4) (missivelaw09_HeaderTells.j2 (k + 1) y0 y1 y2 y3 y4))
  | 0 => ⟨fun _ _ _ _ _ _ r h => by simp [missivelaw09_HeaderTells.j0] at h, fun _ _ _ _ _ r h => by simp [missivelaw09_HeaderTells.j1] at h, fun _ _ _ _ _ r h => by simp [missivelaw09_HeaderTells.j2] at h⟩
  | k + 1 => by
    obtain ⟨ih0, ih1, ih2⟩ := missivelaw09_HeaderTells.mono_l k
    refine ⟨?_, ?_, ?_⟩
    · intro y0 y1 y2 y3 y4 y5
      unfold missivelaw09_HeaderTells.j0
      repeat' first
      | (with_reducible exact ih0 _ _ _ _ _ _)
      | (with_reducible exact ih1 _ _ _ _ _)
      | (with_reducible exact ih2 _ _ _ _ _)
      | (with_reducible exact header_All.mono _ _ _)
      | (with_reducible exact header_Drop.mono _ _ _)
      | (with_reducible exact header_Get.mono _ _ _)
      | (with_reducible exact header_Set.mono _ _ _ _)
      | (with_reducible exact missivelaw09_few.mono _ _)
      | (with_reducible exact missivelaw09_small.mono _)
      | (with_reducible exact missiveref09_All.mono _ _ _)
      | (with_reducible exact missiveref09_Drop.mono _ _ _)
      | (with_reducible exact missiveref09_Get.mono _ _ _)
      | (with_reducible exact missiveref09_Parse.mono _ _)
      | (with_reducible exact missiveref09_Same.mono _ _ _)
      | (with_reducible exact missiveref09_SameTexts.mono _ _ _)
      | (with_reducible exact missiveref09_Set.mono _ _ _ _)
      | (with_reducible exact missiveref09_Write.mono _ _)
      | (with_reducible exact LeO.refl _)
      | (with_reducible exact LeO.none _)
      | (with_reducible refine LeO.ite ?_ ?_)
      | (with_reducible refine LeO.bind ?_ (fun _ => ?_))
      | exact ih0 _ _ _ _ _ _
      | exact ih1 _ _ _ _ _
      | exact ih2 _ _ _ _ _
      | exact header_All.mono _ _ _
      | exact header_Drop.mono _ _ _
      | exact header_Get.mono _ _ _
      | exact header_Set.mono _ _ _ _
      | exact missivelaw09_few.mono _ _
      | exact missivelaw09_small.mono _
      | exact missiveref09_All.mono _ _ _
      | exact missiveref09_Drop.mono _ _ _
      | exact missiveref09_Get.mono _ _ _
      | exact missiveref09_Parse.mono _ _
      | exact missiveref09_Same.mono _ _ _
      | exact missiveref09_SameTexts.mono _ _ _
      | exact missiveref09_Set.mono _ _ _ _
      | exact missiveref09_Write.mono _ _
      | exact LeO.none _
      | refine LeO.ite ?_ ?_
      | refine LeO.bind ?_ (fun _ => ?_)
    · intro y0 y1 y2 y3 y4
      unfold missivelaw09_HeaderTells.j1
      repeat' first
      | (with_reducible exact ih0 _ _ _ _ _ _)
      | (with_reducible exact ih1 _ _ _ _ _)
      | (with_reducible exact ih2 _ _ _ _ _)
      | (with_reducible exact header_All.mono _ _ _)
      | (with_reducible exact header_Drop.mono _ _ _)
      | (with_reducible exact header_Get.mono _ _ _)
      | (with_reducible exact header_Set.mono _ _ _ _)
      | (with_reducible exact missivelaw09_few.mono _ _)
      | (with_reducible exact missivelaw09_small.mono _)
      | (with_reducible exact missiveref09_All.mono _ _ _)
      | (with_reducible exact missiveref09_Drop.mono _ _ _)
      | (with_reducible exact missiveref09_Get.mono _ _ _)
      | (with_reducible exact missiveref09_Parse.mono _ _)
      | (with_reducible exact missiveref09_Same.mono _ _ _)
      | (with_reducible exact missiveref09_SameTexts.mono _ _ _)
      | (with_reducible exact missiveref09_Set.mono _ _ _ _)
      | (with_reducible exact missiveref09_Write.mono _ _)
      | (with_reducible exact LeO.refl _)
      | (with_reducible exact LeO.none _)
      | (with_reducible refine LeO.ite ?_ ?_)
      | (with_reducible refine LeO.bind ?_ (fun _ => ?_))
      | exact ih0 _ _ _ _ _ _
      | exact ih1 _ _ _ _ _
      | exact ih2 _ _ _ _ _
      | exact header_All.mono _ _ _
      | exact header_Drop.mono _ _ _
      | exact header_Get.mono _ _ _
      | exact header_Set.mono _ _ _ _
      | exact missivelaw09_few.mono _ _
      | exact missivelaw09_small.mono _
      | exact missiveref09_All.mono _ _ _
      | exact missiveref09_Drop.mono _ _ _
      | exact missiveref09_Get.mono _ _ _
      | exact missiveref09_Parse.mono _ _
      | exact missiveref09_Same.mono _ _ _
      | exact missiveref09_SameTexts.mono _ _ _
      | exact missiveref09_Set.mono _ _ _ _
      | exact missiveref09_Write.mono _ _
      | exact LeO.none _
      | refine LeO.ite ?_ ?_
      | refine LeO.bind ?_ (fun _ => ?_)
    · intro y0 y1 y2 y3 y4
      unfold missivelaw09_HeaderTells.j2
      repeat' first
      | (with_reducible exact ih0 _ _ _ _ _ _)
      | (with_reducible exact ih1 _ _ _ _ _)
      | (with_reducible exact ih2 _ _ _ _ _)
      | (with_reducible exact header_All.mono _ _ _)
      | (with_reducible exact header_Drop.mono _ _ _)
      | (with_reducible exact header_Get.mono _ _ _)
      | (with_reducible exact header_Set.mono _ _ _ _)
      | (with_reducible exact missivelaw09_few.mono _ _)
      | (with_reducible exact missivelaw09_small.mono _)
      | (with_reducible exact missiveref09_All.mono _ _ _)
      | (with_reducible exact missiveref09_Drop.mono _ _ _)
      | (with_reducible exact missiveref09_Get.mono _ _ _)
      | (with_reducible exact missiveref09_Parse.mono _ _)
      | (with_reducible exact missiveref09_Same.mono _ _ _)
      | (with_reducible exact missiveref09_SameTexts.mono _ _ _)
      | (with_reducible exact missiveref09_Set.mono _ _ _ _)
      | (with_reducible exact missiveref09_Write.mono _ _)
      | (with_reducible exact LeO.refl _)
      | (with_reducible exact LeO.none _)
      | (with_reducible refine LeO.ite ?_ ?_)
      | (with_reducible refine LeO.bind ?_ (fun _ => ?_))
      | exact ih0 _ _ _ _ _ _
      | exact ih1 _ _ _ _ _
      | exact ih2 _ _ _ _ _
      | exact header_All.mono _ _ _
      | exact header_Drop.mono _ _ _
      | exact header_Get.mono _ _ _
      | exact header_Set.mono _ _ _ _
      | exact missivelaw09_few.mono _ _
      | exact missivelaw09_small.mono _
      | exact missiveref09_All.mono _ _ _
      | exact missiveref09_Drop.mono _ _ _
      | exact missiveref09_Get.mono _ _ _
      | exact missiveref09_Parse.mono _ _
      | exact missiveref09_Same.mono _ _ _
      | exact missiveref09_SameTexts.mono _ _ _
      | exact missiveref09_Set.mono _ _ _ _
      | exact missiveref09_Write.mono _ _
      | exact LeO.none _
      | refine LeO.ite ?_ ?_
      | refine LeO.bind ?_ (fun _ => ?_)
theorem missivelaw09_HeaderTells.mono : ∀ a0 a1 a2 a3 k, LeO (missivelaw09_HeaderTells.f k a0 a1 a2 a3) (missivelaw09_HeaderTells.f (k + 1) a0 a1 a2 a3) := by
  intro a0 a1 a2 a3 k
  obtain ⟨ih0, ih1, ih2⟩ := missivelaw09_HeaderTells.mono_l k
  unfold missivelaw09_HeaderTells.f
  repeat' first
      | (with_reducible exact ih0 _ _ _ _ _ _)
      | (with_reducible exact ih1 _ _ _ _ _)
      | (with_reducible exact ih2 _ _ _ _ _)
      | (with_reducible exact header_All.mono _ _ _)
      | (with_reducible exact header_Drop.mono _ _ _)
      | (with_reducible exact header_Get.mono _ _ _)
      | (with_reducible exact header_Set.mono _ _ _ _)
      | (with_reducible exact missivelaw09_few.mono _ _)
      | (with_reducible exact missivelaw09_small.mono _)
      | (with_reducible exact missiveref09_All.mono _ _ _)
      | (with_reducible exact missiveref09_Drop.mono _ _ _)
      | (with_reducible exact missiveref09_Get.mono _ _ _)
      | (with_reducible exact missiveref09_Parse.mono _ _)
      | (with_reducible exact missiveref09_Same.mono _ _ _)
      | (with_reducible exact missiveref09_SameTexts.mono _ _ _)
      | (with_reducible exact missiveref09_Set.mono _ _ _ _)
      | (with_reducible exact missiveref09_Write.mono _ _)
      | (with_reducible exact LeO.refl _)
      | (with_reducible exact LeO.none _)
      | (with_reducible refine LeO.ite ?_ ?_)
      | (with_reducible refine LeO.bind ?_ (fun _ => ?_))
      | exact ih0 _ _ _ _ _ _
      | exact ih1 _ _ _ _ _
      | exact ih2 _ _ _ _ _
      | exact header_All.mono _ _ _
      | exact header_Drop.mono _ _ _
      | exact header_Get.mono _ _ _
      | exact header_Set.mono _ _ _ _
      | exact missivelaw09_few.mono _ _
      | exact missivelaw09_small.mono _
      | exact missiveref09_All.mono _ _ _
      | exact missiveref09_Drop.mono _ _ _
      | exact missiveref09_Get.mono _ _ _
      | exact missiveref09_Parse.mono _ _
      | exact missiveref09_Same.mono _ _ _
      | exact missiveref09_SameTexts.mono _ _ _
      | exact missiveref09_Set.mono _ _ _ _
      | exact missiveref09_Write.mono _ _
      | exact LeO.none _
      | refine LeO.ite ?_ ?_
      | refine LeO.bind ?_ (fun _ => ?_)
set_option maxHeartbeats 8000000 in
set_option maxRecDepth 100000 in
theorem missivelaw09_HeaderTells.calls (k : Nat) (a0 : ByteArray) (A1 : Option Addr) (c1 : Nat) (l1 : List (S35)) (a2 : ByteArray) (a3 : ByteArray) (r : Bool) (w : World) (hr1 : Kd.C k35 w A1 l1.length l1) (hc1 : l1.length ≤ c1) (h : missivelaw09_HeaderTells.f k a0 l1 a2 a3 = some r) :
    Calls Tryz.prog 8 #[.string a0, .slice A1 l1.length c1, .string a2, .string a3] w fun e w' => e = .returned (.bool r) ∧ Below w.heap.size w w' := by
  have HR1 := Aside0.mk hr1
  have HC1 := Aside0.mk hc1
  clear hr1 hc1
  have HB := Aside0.mk (Below.refl w.heap.size w)
  have H : ((missivelaw09_small.f k).bind fun t382 => (if (a0.size : Int) > 6000 then (missivelaw09_HeaderTells.j0 k a0 l1 a2 a3 t382 true) else ((missivelaw09_few.f k l1).bind fun t383 => (if t383 = true then (if (a2.size : Int) > 1000 then (missivelaw09_HeaderTells.j0 k a0 l1 a2 a3 t382 true) else (missivelaw09_HeaderTells.j0 k a0 l1 a2 a3 t382 (decide ((a3.size : Int) > 1000)))) else (missivelaw09_HeaderTells.j0 k a0 l1 a2 a3 t382 true))))) = some r := h
  clear h
  replace H := Option.bind_eq_some_iff.mp H
  obtain ⟨t382, A50, H⟩ := H
  replace H : (if (a0.size : Int) > 6000 then (missivelaw09_HeaderTells.j0 k a0 l1 a2 a3 t382 true) else ((missivelaw09_few.f k l1).bind fun t383 => (if t383 = true then (if (a2.size : Int) > 1000 then (missivelaw09_HeaderTells.j0 k a0 l1 a2 a3 t382 true) else (missivelaw09_HeaderTells.j0 k a0 l1 a2 a3 t382 (decide ((a3.size : Int) > 1000)))) else (missivelaw09_HeaderTells.j0 k a0 l1 a2 a3 t382 true)))) = some r := H
  have A5 := Aside0.mk A50
  clear A50
  have HC6 := Aside0.mk H
  clear H
  go_enter Tryz.func8, Tryz.ntmps8
  go_upto_region 2 with (first | ((with_reducible refine gate_callee (f := 10) rfl ?_); refine goesL_ (some 18) rfl rfl Tryz.func10 (by kernel_rfl) rfl #[] rfl (by (try simp only [List.map_toArray, List.map_cons, List.map_nil]); first | done | rfl | (simp only [List.length_drop, List.length_take]; rfl)) ?_; (with_reducible refine (missivelaw09_small.calls k  t382 _ A5.out).mono ?_); rintro e w7 ⟨rfl, hb⟩; refine ⟨_, rfl, ?_⟩; have n0_ := Aside0.mk (below_step (by repeat (first | (with_reducible first | exact HB.out | apply below_alloc | apply pw_below_drewN | apply below_drew1) | exact HB.out)) hb); clear HB; have HB := n0_; clear n0_; (try clear hb); (try clear hb2); (try clear hk); (try clear hi)))
  (try simp only [Act.put, List.setIfInBounds_toArray, List.set_cons_zero, List.set_cons_succ])
  go_cut [36] (fun v36 wc => ∃ (kq : Nat) (x36_5 : Bool), v36 = .bool x36_5 ∧ Aside0 (missivelaw09_HeaderTells.j0 kq a0 l1 a2 a3 t382 x36_5 = some r) ∧ Aside0 (kq ≤ k) ∧ Aside0 (Below w.heap.size w wc))
  case first =>
    have H := HC6.out
    clear HC6
    by_cases c8 : (a0.size : Int) > 6000
    · rw [if_pos c8] at H
      have c8b0 : decide (6000 < (a0.size : Int)) = true := decide_eq_true c8
      have c8b1 : decide (6000 < a0.size) = true := decide_eq_true (by omega)
      clear c8
      (first | rw [c8b0] | (simp only [i64_w, i32_w]; rw [c8b0]) | skip)
      have H' := Aside0.mk H
      clear H
      go_wp2
      go_meet
      case rel => exact ⟨_, (true), (by first | rfl | (simp; done) | (simp [*]; done)), H', ⟨by first | omega | exact Nat.le_refl _⟩, ⟨by repeat (first | (with_reducible first | exact HB.out | apply below_alloc | apply pw_below_drewN | apply below_drew1) | exact HB.out)⟩⟩
    · rw [if_neg c8] at H
      have c8b0 : decide (6000 < (a0.size : Int)) = false := decide_eq_false c8
      have c8b1 : decide (6000 < a0.size) = false := decide_eq_false (by omega)
      clear c8
      (first | rw [c8b0] | (simp only [i64_w, i32_w]; rw [c8b0]) | skip)
      replace H := Option.bind_eq_some_iff.mp H
      obtain ⟨t383, A90, H⟩ := H
      replace H : (if t383 = true then (if (a2.size : Int) > 1000 then (missivelaw09_HeaderTells.j0 k a0 l1 a2 a3 t382 true) else (missivelaw09_HeaderTells.j0 k a0 l1 a2 a3 t382 (decide ((a3.size : Int) > 1000)))) else (missivelaw09_HeaderTells.j0 k a0 l1 a2 a3 t382 true)) = some r := H
      have A9 := Aside0.mk A90
      clear A90
      by_cases c10 : t383 = true
      · subst c10
        have H1 : (if (a2.size : Int) > 1000 then (missivelaw09_HeaderTells.j0 k a0 l1 a2 a3 t382 true) else (missivelaw09_HeaderTells.j0 k a0 l1 a2 a3 t382 (decide ((a3.size : Int) > 1000)))) = some r := by rw [if_pos rfl] at H; exact H
        clear H
        have H := H1
        clear H1
        by_cases c11 : (a2.size : Int) > 1000
        · rw [if_pos c11] at H
          have c11b0 : decide (1000 < (a2.size : Int)) = true := decide_eq_true c11
          have c11b1 : decide (1000 < a2.size) = true := decide_eq_true (by omega)
          clear c11
          have H' := Aside0.mk H
          clear H
          go_wp2_with (first | (go_at_call 18; (with_reducible refine (missivelaw09_few.calls k _ _ l1 true _ ?side1 ?side2 A9.out).mono ?_); (case side1 => repeat (first | exact (Kd.C_below HR1.out HB.out) | (with_reducible refine Kd.C_alloc ?_ _) | (with_reducible refine Kd.C_drewN ?_ _) | (with_reducible refine Kd.C_drew ?_))); (case side2 => exact HC1.out); rintro e w' ⟨rfl, ⟨nd, rfl⟩⟩))
          go_meet
          case rel => exact ⟨_, (true), (by first | rfl | (simp; done) | (simp [*]; done)), H', ⟨by first | omega | exact Nat.le_refl _⟩, ⟨by repeat (first | (with_reducible first | exact HB.out | apply below_alloc | apply pw_below_drewN | apply below_drew1) | exact HB.out)⟩⟩
        · rw [if_neg c11] at H
          have c11b0 : decide (1000 < (a2.size : Int)) = false := decide_eq_false c11
          have c11b1 : decide (1000 < a2.size) = false := decide_eq_false (by omega)
          clear c11
          have H' := Aside0.mk H
          clear H
          go_wp2_with (first | (go_at_call 18; (with_reducible refine (missivelaw09_few.calls k _ _ l1 true _ ?side1 ?side2 A9.out).mono ?_); (case side1 => repeat (first | exact (Kd.C_below HR1.out HB.out) | (with_reducible refine Kd.C_alloc ?_ _) | (with_reducible refine Kd.C_drewN ?_ _) | (with_reducible refine Kd.C_drew ?_))); (case side2 => exact HC1.out); rintro e w' ⟨rfl, ⟨nd, rfl⟩⟩))
          go_meet
          case rel => exact ⟨_, (decide ((a3.size : Int) > 1000)), (by first | rfl | (simp; done) | (simp [*]; done)), H', ⟨by first | omega | exact Nat.le_refl _⟩, ⟨by repeat (first | (with_reducible first | exact HB.out | apply below_alloc | apply pw_below_drewN | apply below_drew1) | exact HB.out)⟩⟩
      · replace c10 := Bool.eq_false_iff.mpr c10
        subst c10
        have H1 : (missivelaw09_HeaderTells.j0 k a0 l1 a2 a3 t382 true) = some r := by rw [if_neg (show ¬ (false = true) by decide)] at H; exact H
        clear H
        have H := H1
        clear H1
        have H' := Aside0.mk H
        clear H
        go_wp2_with (first | (go_at_call 18; (with_reducible refine (missivelaw09_few.calls k _ _ l1 false _ ?side1 ?side2 A9.out).mono ?_); (case side1 => repeat (first | exact (Kd.C_below HR1.out HB.out) | (with_reducible refine Kd.C_alloc ?_ _) | (with_reducible refine Kd.C_drewN ?_ _) | (with_reducible refine Kd.C_drew ?_))); (case side2 => exact HC1.out); rintro e w' ⟨rfl, ⟨nd, rfl⟩⟩))
        go_meet
        case rel => exact ⟨_, (true), (by first | rfl | (simp; done) | (simp [*]; done)), H', ⟨by first | omega | exact Nat.le_refl _⟩, ⟨by repeat (first | (with_reducible first | exact HB.out | apply below_alloc | apply pw_below_drewN | apply below_drew1) | exact HB.out)⟩⟩
  case rest =>
    clear HC6
    try clear c1
    try clear p2
    try clear c8
    try clear c8b0
    try clear c8b1
    try clear c10
    try clear c11
    try clear c11b0
    try clear c11b1
    obtain ⟨kq, x36_5, rfl, HA, HJ5, HB⟩ := hcut
    cases kq with
    | zero => exact absurd HA.out (by simp [missivelaw09_HeaderTells.j0])
    | succ kj5 =>
      have H := HA.out
      clear HA
      simp only [missivelaw09_HeaderTells.j0] at H
      by_cases c12 : x36_5 = true
      · subst c12
        have H1 : (some t382) = some r := by rw [if_pos rfl] at H; exact H
        clear H
        have H := H1
        clear H1
        obtain rfl := Option.some.inj H
        go_wp2
        go_ret
        exact ⟨by first | rfl | (simp [errW_none, errW_some]; done) | (simp [errW_none, errW_some]; exact isEmpty_nbne _) | (simp [errW_none, errW_some]; exact isEmpty_bne _) | (simp [errW_none, errW_some] <;> rfl) | (simp [*, errW_none, errW_some] <;> rfl), by repeat (first | (with_reducible first | exact HB.out | apply below_alloc | apply pw_below_drewN | apply below_drew1) | exact HB.out)⟩
      · replace c12 := Bool.eq_false_iff.mpr c12
        subst c12
        have H1 : ((header_Parse.f a0).bind fun bt384 => ((missiveref09_Parse.f kj5 a0).bind fun bt388 => (if bt384.2 = bt388.2 then ((missiveref09_Same.f kj5 bt384.1 bt388.1).bind fun t392 => (if t392 = true then ((header_Write.f l1).bind fun t393 => ((missiveref09_Write.f kj5 l1).bind fun t394 => (missivelaw09_HeaderTells.j1 kj5 l1 a2 a3 t382 (t393.toList != t394.toList)))) else (missivelaw09_HeaderTells.j1 kj5 l1 a2 a3 t382 true))) else (missivelaw09_HeaderTells.j1 kj5 l1 a2 a3 t382 true)))) = some r := by rw [if_neg (show ¬ (false = true) by decide)] at H; exact H
        clear H
        have H := H1
        clear H1
        replace H := Option.bind_eq_some_iff.mp H
        obtain ⟨⟨t384, t385⟩, A130, H⟩ := H
        replace H : ((missiveref09_Parse.f kj5 a0).bind fun bt388 => (if t385 = bt388.2 then ((missiveref09_Same.f kj5 t384 bt388.1).bind fun t392 => (if t392 = true then ((header_Write.f l1).bind fun t393 => ((missiveref09_Write.f kj5 l1).bind fun t394 => (missivelaw09_HeaderTells.j1 kj5 l1 a2 a3 t382 (t393.toList != t394.toList)))) else (missivelaw09_HeaderTells.j1 kj5 l1 a2 a3 t382 true))) else (missivelaw09_HeaderTells.j1 kj5 l1 a2 a3 t382 true))) = some r := H
        have A13 := Aside0.mk A130
        clear A130
        replace H := Option.bind_eq_some_iff.mp H
        obtain ⟨⟨t388, t389⟩, A140, H⟩ := H
        replace H : (if t385 = t389 then ((missiveref09_Same.f kj5 t384 t388).bind fun t392 => (if t392 = true then ((header_Write.f l1).bind fun t393 => ((missiveref09_Write.f kj5 l1).bind fun t394 => (missivelaw09_HeaderTells.j1 kj5 l1 a2 a3 t382 (t393.toList != t394.toList)))) else (missivelaw09_HeaderTells.j1 kj5 l1 a2 a3 t382 true))) else (missivelaw09_HeaderTells.j1 kj5 l1 a2 a3 t382 true)) = some r := H
        have A14 := Aside0.mk A140
        clear A140
        have HC15 := Aside0.mk H
        clear H
        go_upto_region 6 with (first | ((with_reducible refine gate_callee (f := 22) rfl ?_); refine goesL_ (some 40) rfl rfl Tryz.func22 (by kernel_rfl) rfl #[.string a0] rfl (by (try simp only [List.map_toArray, List.map_cons, List.map_nil]); first | done | rfl | (simp only [List.length_drop, List.length_take]; rfl)) ?_; (with_reducible refine (header_Parse.calls a0 t384 t385 _ A13.out).mono ?_); rintro e w16 ⟨v386, rfl, ho0, hb⟩; refine ⟨_, rfl, ?_⟩; have n0_ := Aside0.mk (Kd.R_lower ho0 (below_size (by repeat (first | (with_reducible first | exact HB.out | apply below_alloc | apply pw_below_drewN | apply below_drew1) | exact HB.out)))); have n1_ := Aside0.mk (below_step (by repeat (first | (with_reducible first | exact HB.out | apply below_alloc | apply pw_below_drewN | apply below_drew1) | exact HB.out)) hb); clear HB; have HO387 := n0_; have HB := n1_; clear n0_ n1_; (try clear hb); (try clear hb2); (try clear hk); (try clear hi); (try clear ho0)) | ((with_reducible refine gate_callee (f := 28) rfl ?_); refine goesL_ (some 45) rfl rfl Tryz.func28 (by kernel_rfl) rfl #[.string a0] rfl (by (try simp only [List.map_toArray, List.map_cons, List.map_nil]); first | done | rfl | (simp only [List.length_drop, List.length_take]; rfl)) ?_; (with_reducible refine (missiveref09_Parse.calls kj5 a0 t388 t389 _ A14.out).mono ?_); rintro e w17 ⟨v390, rfl, ho0, hb⟩; refine ⟨_, rfl, ?_⟩; have n0_ := Aside0.mk (Kd.R_elder' (by (with_reducible repeat (first | apply Kd.R_alloc | apply Kd.R_drewN | apply Kd.R_drew)); exact HO387.out) (Kd.R_base ho0) hb); have n1_ := Aside0.mk (Kd.R_lower (Kd.R_new' ho0 (Kd.R_lt (by (with_reducible repeat (first | apply Kd.R_alloc | apply Kd.R_drewN | apply Kd.R_drew)); exact HO387.out))) (below_size (by repeat (first | (with_reducible first | exact HB.out | apply below_alloc | apply pw_below_drewN | apply below_drew1) | exact HB.out)))); have n2_ := Aside0.mk (below_step (by repeat (first | (with_reducible first | exact HB.out | apply below_alloc | apply pw_below_drewN | apply below_drew1) | exact HB.out)) hb); clear HO387; clear HB; have HO387 := n0_; have HO391 := n1_; have HB := n2_; clear n0_ n1_ n2_; (try clear hb); (try clear hb2); (try clear hk); (try clear hi); (try clear ho0)))
        (try simp only [Act.put, List.setIfInBounds_toArray, List.set_cons_zero, List.set_cons_succ])
        go_cut [63] (fun v63 wc => ∃ (kq : Nat) (x63_14 : Bool), v63 = .bool x63_14 ∧ Aside0 (missivelaw09_HeaderTells.j1 kq l1 a2 a3 t382 x63_14 = some r) ∧ Aside0 (kq ≤ kj5) ∧ Aside0 (Below w.heap.size w wc))
        case first =>
          have H := HC15.out
          clear HC15
          by_cases c18 : t385 = t389
          · rw [if_pos c18] at H
            have c18b0 : (t385 == t389) = true := beq_iff_eq.mpr c18
            have c18b1 : (t385 != t389) = false := bne_eq_false_iff_eq.mpr c18
            clear c18
            (first | rw [c18b0] | (simp only [i64_w, i32_w]; rw [c18b0]) | skip)
            replace H := Option.bind_eq_some_iff.mp H
            obtain ⟨t392, A190, H⟩ := H
            replace H : (if t392 = true then ((header_Write.f l1).bind fun t393 => ((missiveref09_Write.f kj5 l1).bind fun t394 => (missivelaw09_HeaderTells.j1 kj5 l1 a2 a3 t382 (t393.toList != t394.toList)))) else (missivelaw09_HeaderTells.j1 kj5 l1 a2 a3 t382 true)) = some r := H
            have A19 := Aside0.mk A190
            clear A190
            by_cases c20 : t392 = true
            · subst c20
              have H1 : ((header_Write.f l1).bind fun t393 => ((missiveref09_Write.f kj5 l1).bind fun t394 => (missivelaw09_HeaderTells.j1 kj5 l1 a2 a3 t382 (t393.toList != t394.toList)))) = some r := by rw [if_pos rfl] at H; exact H
              clear H
              have H := H1
              clear H1
              replace H := Option.bind_eq_some_iff.mp H
              obtain ⟨t393, A210, H⟩ := H
              replace H : ((missiveref09_Write.f kj5 l1).bind fun t394 => (missivelaw09_HeaderTells.j1 kj5 l1 a2 a3 t382 (t393.toList != t394.toList))) = some r := H
              have A21 := Aside0.mk A210
              clear A210
              replace H := Option.bind_eq_some_iff.mp H
              obtain ⟨t394, A220, H⟩ := H
              replace H : (missivelaw09_HeaderTells.j1 kj5 l1 a2 a3 t382 (t393.toList != t394.toList)) = some r := H
              have A22 := Aside0.mk A220
              clear A220
              have H' := Aside0.mk H
              clear H
              obtain ⟨Ao23, co23, eo23⟩ := Kd.R_slice HO387.out
              subst eo23
              obtain ⟨Ao24, co24, eo24⟩ := Kd.R_slice HO391.out
              subst eo24
              go_wp2_with (first | (go_at_call 23; (with_reducible refine (missiveref09_Same.calls kj5 _ _ t384 _ _ t388 true _ ?side1 ?side2 ?side3 ?side4 A19.out).mono ?_); (case side1 => repeat (first | exact (Kd.R_reads' HO387.out).2.2 | (with_reducible refine Kd.C_alloc ?_ _) | (with_reducible refine Kd.C_drewN ?_ _) | (with_reducible refine Kd.C_drew ?_))); (case side2 => exact (Kd.R_reads' HO387.out).2.1); (case side3 => repeat (first | exact (Kd.R_reads' HO391.out).2.2 | (with_reducible refine Kd.C_alloc ?_ _) | (with_reducible refine Kd.C_drewN ?_ _) | (with_reducible refine Kd.C_drew ?_))); (case side4 => exact (Kd.R_reads' HO391.out).2.1); rintro e w' ⟨rfl, ⟨nd, rfl⟩⟩) | (go_at_call 21; (with_reducible refine (header_Write.calls _ _ l1 t393 _ ?side1 ?side2 A21.out).mono ?_); (case side1 => repeat (first | exact (Kd.C_below HR1.out (by repeat (first | (with_reducible first | exact HB.out | apply below_alloc | apply pw_below_drewN | apply below_drew1) | exact HB.out))) | (with_reducible refine Kd.C_alloc ?_ _) | (with_reducible refine Kd.C_drewN ?_ _) | (with_reducible refine Kd.C_drew ?_))); (case side2 => exact HC1.out); rintro e w25 ⟨rfl, hb⟩; have n0_ := Aside0.mk (Kd.R_below (by (with_reducible repeat (first | apply Kd.R_alloc | apply Kd.R_drewN | apply Kd.R_drew)); exact HO387.out) hb); have n1_ := Aside0.mk (Kd.R_below (by (with_reducible repeat (first | apply Kd.R_alloc | apply Kd.R_drewN | apply Kd.R_drew)); exact HO391.out) hb); have n2_ := Aside0.mk (below_step (by repeat (first | (with_reducible first | exact HB.out | apply below_alloc | apply pw_below_drewN | apply below_drew1) | exact HB.out)) hb); clear HO387; clear HO391; clear HB; have HO387 := n0_; have HO391 := n1_; have HB := n2_; clear n0_ n1_ n2_; (try clear hb); (try clear hb2); (try clear hk); (try clear hi)) | (go_at_call 29; (with_reducible refine (missiveref09_Write.calls kj5 _ _ l1 t394 _ ?side1 ?side2 A22.out).mono ?_); (case side1 => repeat (first | exact (Kd.C_below HR1.out HB.out) | (with_reducible refine Kd.C_alloc ?_ _) | (with_reducible refine Kd.C_drewN ?_ _) | (with_reducible refine Kd.C_drew ?_))); (case side2 => exact HC1.out); rintro e w26 ⟨rfl, hb⟩; have n0_ := Aside0.mk (Kd.R_below (by (with_reducible repeat (first | apply Kd.R_alloc | apply Kd.R_drewN | apply Kd.R_drew)); exact HO387.out) hb); have n1_ := Aside0.mk (Kd.R_below (by (with_reducible repeat (first | apply Kd.R_alloc | apply Kd.R_drewN | apply Kd.R_drew)); exact HO391.out) hb); have n2_ := Aside0.mk (below_step (by repeat (first | (with_reducible first | exact HB.out | apply below_alloc | apply pw_below_drewN | apply below_drew1) | exact HB.out)) hb); clear HO387; clear HO391; clear HB; have HO387 := n0_; have HO391 := n1_; have HB := n2_; clear n0_ n1_ n2_; (try clear hb); (try clear hb2); (try clear hk); (try clear hi)))
              go_meet
              case rel => exact ⟨_, ((t393.toList != t394.toList)), (by first | rfl | (simp; done) | (simp [*]; done)), H', ⟨by have := HJ5.out; first | omega | exact Nat.le_refl _⟩, ⟨by repeat (first | (with_reducible first | exact HB.out | apply below_alloc | apply pw_below_drewN | apply below_drew1) | exact HB.out)⟩⟩
            · replace c20 := Bool.eq_false_iff.mpr c20
              subst c20
              have H1 : (missivelaw09_HeaderTells.j1 kj5 l1 a2 a3 t382 true) = some r := by rw [if_neg (show ¬ (false = true) by decide)] at H; exact H
              clear H
              have H := H1
              clear H1
              have H' := Aside0.mk H
              clear H
              obtain ⟨Ao27, co27, eo27⟩ := Kd.R_slice HO387.out
              subst eo27
              obtain ⟨Ao28, co28, eo28⟩ := Kd.R_slice HO391.out
              subst eo28
              go_wp2_with (first | (go_at_call 23; (with_reducible refine (missiveref09_Same.calls kj5 _ _ t384 _ _ t388 false _ ?side1 ?side2 ?side3 ?side4 A19.out).mono ?_); (case side1 => repeat (first | exact (Kd.R_reads' HO387.out).2.2 | (with_reducible refine Kd.C_alloc ?_ _) | (with_reducible refine Kd.C_drewN ?_ _) | (with_reducible refine Kd.C_drew ?_))); (case side2 => exact (Kd.R_reads' HO387.out).2.1); (case side3 => repeat (first | exact (Kd.R_reads' HO391.out).2.2 | (with_reducible refine Kd.C_alloc ?_ _) | (with_reducible refine Kd.C_drewN ?_ _) | (with_reducible refine Kd.C_drew ?_))); (case side4 => exact (Kd.R_reads' HO391.out).2.1); rintro e w' ⟨rfl, ⟨nd, rfl⟩⟩))
              go_meet
              case rel => exact ⟨_, (true), (by first | rfl | (simp; done) | (simp [*]; done)), H', ⟨by have := HJ5.out; first | omega | exact Nat.le_refl _⟩, ⟨by repeat (first | (with_reducible first | exact HB.out | apply below_alloc | apply pw_below_drewN | apply below_drew1) | exact HB.out)⟩⟩
          · rw [if_neg c18] at H
            have c18b0 : (t385 == t389) = false := beq_eq_false_iff_ne.mpr c18
            have c18b1 : (t385 != t389) = true := bne_iff_ne.mpr c18
            (first | rw [c18b0] | (simp only [i64_w, i32_w]; rw [c18b0]) | skip)
            have H' := Aside0.mk H
            clear H
            go_wp2
            go_meet
            case rel => exact ⟨_, (true), (by first | rfl | (simp; done) | (simp [*]; done)), H', ⟨by have := HJ5.out; first | omega | exact Nat.le_refl _⟩, ⟨by repeat (first | (with_reducible first | exact HB.out | apply below_alloc | apply pw_below_drewN | apply below_drew1) | exact HB.out)⟩⟩
        case rest =>
          clear HC15
          try clear c1
          try clear c2
          try clear p2
          try clear c8
          try clear c8b0
          try clear c8b1
          try clear c10
          try clear c11
          try clear c11b0
          try clear c11b1
          try clear c12
          try clear c18
          try clear c18b0
          try clear c18b1
          try clear c20
          try clear c22
          try clear c28
          try clear p2
          obtain ⟨kq, x63_14, rfl, HA, HJ14, HB⟩ := hcut
          cases kq with
          | zero => exact absurd HA.out (by simp [missivelaw09_HeaderTells.j1])
          | succ kj14 =>
            have H := HA.out
            clear HA
            simp only [missivelaw09_HeaderTells.j1] at H
            by_cases c29 : x63_14 = true
            · subst c29
              have H1 : (some false) = some r := by rw [if_pos rfl] at H; exact H
              clear H
              have H := H1
              clear H1
              obtain rfl := Option.some.inj H
              go_wp2
              go_ret
              exact ⟨by first | rfl | (simp [errW_none, errW_some]; done) | (simp [errW_none, errW_some]; exact isEmpty_nbne _) | (simp [errW_none, errW_some]; exact isEmpty_bne _) | (simp [errW_none, errW_some] <;> rfl) | (simp [*, errW_none, errW_some] <;> rfl), by repeat (first | (with_reducible first | exact HB.out | apply below_alloc | apply pw_below_drewN | apply below_drew1) | exact HB.out)⟩
            · replace c29 := Bool.eq_false_iff.mpr c29
              subst c29
              have H1 : ((header_Get.f kj14 l1 a2).bind fun bt395 => ((missiveref09_Get.f kj14 l1 a2).bind fun bt397 => (if bt395.1.toList = bt397.1.toList then (if (bt395.2 != bt397.2) = true then (missivelaw09_HeaderTells.j2 kj14 l1 a2 a3 t382 true) else ((header_All.f kj14 l1 a2).bind fun t399 => ((missiveref09_All.f kj14 l1 a2).bind fun t402 => ((missiveref09_SameTexts.f kj14 t399 t402).bind fun t405 => (missivelaw09_HeaderTells.j2 kj14 l1 a2 a3 t382 (!t405)))))) else (missivelaw09_HeaderTells.j2 kj14 l1 a2 a3 t382 true)))) = some r := by rw [if_neg (show ¬ (false = true) by decide)] at H; exact H
              clear H
              have H := H1
              clear H1
              replace H := Option.bind_eq_some_iff.mp H
              obtain ⟨⟨t395, t396⟩, A300, H⟩ := H
              replace H : ((missiveref09_Get.f kj14 l1 a2).bind fun bt397 => (if t395.toList = bt397.1.toList then (if (t396 != bt397.2) = true then (missivelaw09_HeaderTells.j2 kj14 l1 a2 a3 t382 true) else ((header_All.f kj14 l1 a2).bind fun t399 => ((missiveref09_All.f kj14 l1 a2).bind fun t402 => ((missiveref09_SameTexts.f kj14 t399 t402).bind fun t405 => (missivelaw09_HeaderTells.j2 kj14 l1 a2 a3 t382 (!t405)))))) else (missivelaw09_HeaderTells.j2 kj14 l1 a2 a3 t382 true))) = some r := H
              have A30 := Aside0.mk A300
              clear A300
              replace H := Option.bind_eq_some_iff.mp H
              obtain ⟨⟨t397, t398⟩, A310, H⟩ := H
              replace H : (if t395.toList = t397.toList then (if (t396 != t398) = true then (missivelaw09_HeaderTells.j2 kj14 l1 a2 a3 t382 true) else ((header_All.f kj14 l1 a2).bind fun t399 => ((missiveref09_All.f kj14 l1 a2).bind fun t402 => ((missiveref09_SameTexts.f kj14 t399 t402).bind fun t405 => (missivelaw09_HeaderTells.j2 kj14 l1 a2 a3 t382 (!t405)))))) else (missivelaw09_HeaderTells.j2 kj14 l1 a2 a3 t382 true)) = some r := H
              have A31 := Aside0.mk A310
              clear A310
              have HC32 := Aside0.mk H
              clear H
              go_upto_region 10 with (first | ((with_reducible refine gate_callee (f := 30) rfl ?_); refine goesL_ (some 67) rfl rfl Tryz.func30 (by kernel_rfl) rfl #[.slice A1 l1.length c1, .string a2] rfl (by (try simp only [List.map_toArray, List.map_cons, List.map_nil]); first | done | rfl | (simp only [List.length_drop, List.length_take]; rfl)) ?_; (with_reducible refine (header_Get.calls kj14 _ _ l1 a2 t395 t396 _ ?side1 ?side2 A30.out).mono ?_); (case side1 => repeat (first | exact (Kd.C_below HR1.out HB.out) | (with_reducible refine Kd.C_alloc ?_ _) | (with_reducible refine Kd.C_drewN ?_ _) | (with_reducible refine Kd.C_drew ?_))); (case side2 => exact HC1.out); rintro e w33 ⟨rfl, hb⟩; refine ⟨_, rfl, ?_⟩; have n0_ := Aside0.mk (below_step (by repeat (first | (with_reducible first | exact HB.out | apply below_alloc | apply pw_below_drewN | apply below_drew1) | exact HB.out)) hb); clear HB; have HB := n0_; clear n0_; (try clear hb); (try clear hb2); (try clear hk); (try clear hi)) | ((with_reducible refine gate_callee (f := 31) rfl ?_); refine goesL_ (some 73) rfl rfl Tryz.func31 (by kernel_rfl) rfl #[.slice A1 l1.length c1, .string a2] rfl (by (try simp only [List.map_toArray, List.map_cons, List.map_nil]); first | done | rfl | (simp only [List.length_drop, List.length_take]; rfl)) ?_; (with_reducible refine (missiveref09_Get.calls kj14 _ _ l1 a2 t397 t398 _ ?side1 ?side2 A31.out).mono ?_); (case side1 => repeat (first | exact (Kd.C_below HR1.out HB.out) | (with_reducible refine Kd.C_alloc ?_ _) | (with_reducible refine Kd.C_drewN ?_ _) | (with_reducible refine Kd.C_drew ?_))); (case side2 => exact HC1.out); rintro e w34 ⟨rfl, hb⟩; refine ⟨_, rfl, ?_⟩; have n0_ := Aside0.mk (below_step (by repeat (first | (with_reducible first | exact HB.out | apply below_alloc | apply pw_below_drewN | apply below_drew1) | exact HB.out)) hb); clear HB; have HB := n0_; clear n0_; (try clear hb); (try clear hb2); (try clear hk); (try clear hi)))
              (try simp only [Act.put, List.setIfInBounds_toArray, List.set_cons_zero, List.set_cons_succ])
              go_cut [93] (fun v93 wc => ∃ (kq : Nat) (x93_31 : Bool), v93 = .bool x93_31 ∧ Aside0 (missivelaw09_HeaderTells.j2 kq l1 a2 a3 t382 x93_31 = some r) ∧ Aside0 (kq ≤ kj14) ∧ Aside0 (Below w.heap.size w wc))
              case first =>
                have H := HC32.out
                clear HC32
                by_cases c35 : t395.toList = t397.toList
                · rw [if_pos c35] at H
                  have c35b0 : (t395.toList == t397.toList) = true := beq_iff_eq.mpr c35
                  have c35b1 : (t395.toList != t397.toList) = false := bne_eq_false_iff_eq.mpr c35
                  clear c35
                  (first | rw [c35b0] | (simp only [i64_w, i32_w]; rw [c35b0]) | skip)
                  by_cases c36 : (t396 != t398) = true
                  · rw [if_pos c36] at H
                    have c36b0 : (t396 != t398) = true := c36
                    (try (have c36b1 : decide (t396 = t398) = false := by simpa using c36))
                    (try (have c36b2 : (t396 == t398) = false := by simpa using c36))
                    (try (have c36b3 : ¬ (t396 = t398) := by simpa using c36))
                    clear c36
                    have H' := Aside0.mk H
                    clear H
                    go_wp2
                    go_meet
                    case rel => exact ⟨_, (true), (by first | rfl | (simp; done) | (simp [*]; done)), H', ⟨by have := HJ5.out; have := HJ14.out; first | omega | exact Nat.le_refl _⟩, ⟨by repeat (first | (with_reducible first | exact HB.out | apply below_alloc | apply pw_below_drewN | apply below_drew1) | exact HB.out)⟩⟩
                  · rw [if_neg c36] at H
                    have c36b0 : (t396 != t398) = false := by simpa using c36
                    (try (have c36b1 : decide (t396 = t398) = true := by simpa using c36))
                    (try (have c36b2 : (t396 == t398) = true := by simpa using c36))
                    clear c36
                    replace H := Option.bind_eq_some_iff.mp H
                    obtain ⟨t399, A370, H⟩ := H
                    replace H : ((missiveref09_All.f kj14 l1 a2).bind fun t402 => ((missiveref09_SameTexts.f kj14 t399 t402).bind fun t405 => (missivelaw09_HeaderTells.j2 kj14 l1 a2 a3 t382 (!t405)))) = some r := H
                    have A37 := Aside0.mk A370
                    clear A370
                    replace H := Option.bind_eq_some_iff.mp H
                    obtain ⟨t402, A380, H⟩ := H
                    replace H : ((missiveref09_SameTexts.f kj14 t399 t402).bind fun t405 => (missivelaw09_HeaderTells.j2 kj14 l1 a2 a3 t382 (!t405))) = some r := H
                    have A38 := Aside0.mk A380
                    clear A380
                    replace H := Option.bind_eq_some_iff.mp H
                    obtain ⟨t405, A390, H⟩ := H
                    replace H : (missivelaw09_HeaderTells.j2 kj14 l1 a2 a3 t382 (!t405)) = some r := H
                    have A39 := Aside0.mk A390
                    clear A390
                    have H' := Aside0.mk H
                    clear H
                    go_wp2_with (first | (go_at_call 33; (with_reducible refine (header_All.calls kj14 _ _ l1 a2 t399 _ ?side1 ?side2 A37.out).mono ?_); (case side1 => repeat (first | exact (Kd.C_below HR1.out HB.out) | (with_reducible refine Kd.C_alloc ?_ _) | (with_reducible refine Kd.C_drewN ?_ _) | (with_reducible refine Kd.C_drew ?_))); (case side2 => exact HC1.out); rintro e w40 ⟨v400, rfl, ho0, hb⟩; have n0_ := Aside0.mk (Kd.R_lower ho0 (below_size (by repeat (first | (with_reducible first | exact HB.out | apply below_alloc | apply pw_below_drewN | apply below_drew1) | exact HB.out)))); have n1_ := Aside0.mk (below_step (by repeat (first | (with_reducible first | exact HB.out | apply below_alloc | apply pw_below_drewN | apply below_drew1) | exact HB.out)) hb); clear HB; have HO401 := n0_; have HB := n1_; clear n0_ n1_; (try clear hb); (try clear hb2); (try clear hk); (try clear hi); (try clear ho0)) | (go_at_call 34; (with_reducible refine (missiveref09_All.calls kj14 _ _ l1 a2 t402 _ ?side1 ?side2 A38.out).mono ?_); (case side1 => repeat (first | exact (Kd.C_below HR1.out HB.out) | (with_reducible refine Kd.C_alloc ?_ _) | (with_reducible refine Kd.C_drewN ?_ _) | (with_reducible refine Kd.C_drew ?_))); (case side2 => exact HC1.out); rintro e w41 ⟨v403, rfl, ho0, hb⟩; have n0_ := Aside0.mk (Kd.R_elder' (by (with_reducible repeat (first | apply Kd.R_alloc | apply Kd.R_drewN | apply Kd.R_drew)); exact HO401.out) (Kd.R_base ho0) hb); have n1_ := Aside0.mk (Kd.R_lower (Kd.R_new' ho0 (Kd.R_lt (by (with_reducible repeat (first | apply Kd.R_alloc | apply Kd.R_drewN | apply Kd.R_drew)); exact HO401.out))) (below_size (by repeat (first | (with_reducible first | exact HB.out | apply below_alloc | apply pw_below_drewN | apply below_drew1) | exact HB.out)))); have n2_ := Aside0.mk (below_step (by repeat (first | (with_reducible first | exact HB.out | apply below_alloc | apply pw_below_drewN | apply below_drew1) | exact HB.out)) hb); clear HO401; clear HB; have HO401 := n0_; have HO404 := n1_; have HB := n2_; clear n0_ n1_ n2_; (try clear hb); (try clear hb2); (try clear hk); (try clear hi); (try clear ho0); obtain ⟨Ao42, co42, eo42⟩ := Kd.R_slice HO401.out; subst eo42; obtain ⟨Ao43, co43, eo43⟩ := Kd.R_slice HO404.out; subst eo43) | (go_at_call 32; (with_reducible refine (missiveref09_SameTexts.calls kj14 _ _ t399 _ _ t402 t405 _ ?side1 ?side2 ?side3 ?side4 A39.out).mono ?_); (case side1 => repeat (first | exact (Kd.R_reads' HO401.out).2.2 | (with_reducible refine Kd.C_alloc ?_ _) | (with_reducible refine Kd.C_drewN ?_ _) | (with_reducible refine Kd.C_drew ?_))); (case side2 => exact (Kd.R_reads' HO401.out).2.1); (case side3 => repeat (first | exact (Kd.R_reads' HO404.out).2.2 | (with_reducible refine Kd.C_alloc ?_ _) | (with_reducible refine Kd.C_drewN ?_ _) | (with_reducible refine Kd.C_drew ?_))); (case side4 => exact (Kd.R_reads' HO404.out).2.1); rintro e w' ⟨rfl, ⟨nd, rfl⟩⟩))
                    go_meet
                    case rel => exact ⟨_, (!t405), (by first | rfl | (simp; done) | (simp [*]; done)), H', ⟨by have := HJ5.out; have := HJ14.out; first | omega | exact Nat.le_refl _⟩, ⟨by repeat (first | (with_reducible first | exact HB.out | apply below_alloc | apply pw_below_drewN | apply below_drew1) | exact HB.out)⟩⟩
                · rw [if_neg c35] at H
                  have c35b0 : (t395.toList == t397.toList) = false := beq_eq_false_iff_ne.mpr c35
                  have c35b1 : (t395.toList != t397.toList) = true := bne_iff_ne.mpr c35
                  (first | rw [c35b0] | (simp only [i64_w, i32_w]; rw [c35b0]) | skip)
                  have H' := Aside0.mk H
                  clear H
                  go_wp2
                  go_meet
                  case rel => exact ⟨_, (true), (by first | rfl | (simp; done) | (simp [*]; done)), H', ⟨by have := HJ5.out; have := HJ14.out; first | omega | exact Nat.le_refl _⟩, ⟨by repeat (first | (with_reducible first | exact HB.out | apply below_alloc | apply pw_below_drewN | apply below_drew1) | exact HB.out)⟩⟩
              case rest =>
                clear HC32
                try clear c1
                try clear c2
                try clear p2
                try clear c3
                try clear c8
                try clear c8b0
                try clear c8b1
                try clear c10
                try clear c11
                try clear c11b0
                try clear c11b1
                try clear c12
                try clear c18
                try clear c18b0
                try clear c18b1
                try clear c20
                try clear c22
                try clear c28
                try clear c29
                try clear c30
                try clear c31
                try clear c35
                try clear c35b0
                try clear c35b1
                try clear c36
                try clear c36b0
                try clear c36b1
                try clear c36b2
                try clear p2
                obtain ⟨kq, x93_31, rfl, HA, HJ31, HB⟩ := hcut
                cases kq with
                | zero => exact absurd HA.out (by simp [missivelaw09_HeaderTells.j2])
                | succ kj31 =>
                  have H := HA.out
                  clear HA
                  simp only [missivelaw09_HeaderTells.j2] at H
                  by_cases c44 : x93_31 = true
                  · subst c44
                    have H1 : (some false) = some r := by rw [if_pos rfl] at H; exact H
                    clear H
                    have H := H1
                    clear H1
                    obtain rfl := Option.some.inj H
                    go_wp2
                    go_ret
                    exact ⟨by first | rfl | (simp [errW_none, errW_some]; done) | (simp [errW_none, errW_some]; exact isEmpty_nbne _) | (simp [errW_none, errW_some]; exact isEmpty_bne _) | (simp [errW_none, errW_some] <;> rfl) | (simp [*, errW_none, errW_some] <;> rfl), by repeat (first | (with_reducible first | exact HB.out | apply below_alloc | apply pw_below_drewN | apply below_drew1) | exact HB.out)⟩
                  · replace c44 := Bool.eq_false_iff.mpr c44
                    subst c44
                    have H1 : (if t382 = true then ((header_Set.f kj31 l1 a2 a3).bind fun t406 => ((missiveref09_Set.f kj31 l1 a2 a3).bind fun t409 => ((missiveref09_Same.f kj31 t406 t409).bind fun t412 => (if t412 = true then ((header_Drop.f kj31 l1 a2).bind fun t413 => ((missiveref09_Drop.f kj31 l1 a2).bind fun t416 => ((missiveref09_Same.f kj31 t413 t416).bind fun t419 => (some t419)))) else (some false))))) else (some false)) = some r := by rw [if_neg (show ¬ (false = true) by decide)] at H; exact H
                    clear H
                    have H := H1
                    clear H1
                    by_cases c45 : t382 = true
                    · subst c45
                      have H1 : ((header_Set.f kj31 l1 a2 a3).bind fun t406 => ((missiveref09_Set.f kj31 l1 a2 a3).bind fun t409 => ((missiveref09_Same.f kj31 t406 t409).bind fun t412 => (if t412 = true then ((header_Drop.f kj31 l1 a2).bind fun t413 => ((missiveref09_Drop.f kj31 l1 a2).bind fun t416 => ((missiveref09_Same.f kj31 t413 t416).bind fun t419 => (some t419)))) else (some false))))) = some r := by rw [if_pos rfl] at H; exact H
                      clear H
                      have H := H1
                      clear H1
                      replace H := Option.bind_eq_some_iff.mp H
                      obtain ⟨t406, A460, H⟩ := H
                      replace H : ((missiveref09_Set.f kj31 l1 a2 a3).bind fun t409 => ((missiveref09_Same.f kj31 t406 t409).bind fun t412 => (if t412 = true then ((header_Drop.f kj31 l1 a2).bind fun t413 => ((missiveref09_Drop.f kj31 l1 a2).bind fun t416 => ((missiveref09_Same.f kj31 t413 t416).bind fun t419 => (some t419)))) else (some false)))) = some r := H
                      have A46 := Aside0.mk A460
                      clear A460
                      replace H := Option.bind_eq_some_iff.mp H
                      obtain ⟨t409, A470, H⟩ := H
                      replace H : ((missiveref09_Same.f kj31 t406 t409).bind fun t412 => (if t412 = true then ((header_Drop.f kj31 l1 a2).bind fun t413 => ((missiveref09_Drop.f kj31 l1 a2).bind fun t416 => ((missiveref09_Same.f kj31 t413 t416).bind fun t419 => (some t419)))) else (some false))) = some r := H
                      have A47 := Aside0.mk A470
                      clear A470
                      replace H := Option.bind_eq_some_iff.mp H
                      obtain ⟨t412, A480, H⟩ := H
                      replace H : (if t412 = true then ((header_Drop.f kj31 l1 a2).bind fun t413 => ((missiveref09_Drop.f kj31 l1 a2).bind fun t416 => ((missiveref09_Same.f kj31 t413 t416).bind fun t419 => (some t419)))) else (some false)) = some r := H
                      have A48 := Aside0.mk A480
                      clear A480
                      by_cases c49 : t412 = true
                      · subst c49
                        have H1 : ((header_Drop.f kj31 l1 a2).bind fun t413 => ((missiveref09_Drop.f kj31 l1 a2).bind fun t416 => ((missiveref09_Same.f kj31 t413 t416).bind fun t419 => (some t419)))) = some r := by rw [if_pos rfl] at H; exact H
                        clear H
                        have H := H1
                        clear H1
                        replace H := Option.bind_eq_some_iff.mp H
                        obtain ⟨t413, A500, H⟩ := H
                        replace H : ((missiveref09_Drop.f kj31 l1 a2).bind fun t416 => ((missiveref09_Same.f kj31 t413 t416).bind fun t419 => (some t419))) = some r := H
                        have A50 := Aside0.mk A500
                        clear A500
                        replace H := Option.bind_eq_some_iff.mp H
                        obtain ⟨t416, A510, H⟩ := H
                        replace H : ((missiveref09_Same.f kj31 t413 t416).bind fun t419 => (some t419)) = some r := H
                        have A51 := Aside0.mk A510
                        clear A510
                        replace H := Option.bind_eq_some_iff.mp H
                        obtain ⟨t419, A520, H⟩ := H
                        replace H : (some t419) = some r := H
                        have A52 := Aside0.mk A520
                        clear A520
                        obtain rfl := Option.some.inj H
                        go_wp2_with (first | (go_at_call 35; (with_reducible refine (header_Set.calls kj31 _ _ l1 a2 a3 t406 _ ?side1 ?side2 A46.out).mono ?_); (case side1 => repeat (first | exact (Kd.C_below HR1.out HB.out) | (with_reducible refine Kd.C_alloc ?_ _) | (with_reducible refine Kd.C_drewN ?_ _) | (with_reducible refine Kd.C_drew ?_))); (case side2 => exact HC1.out); rintro e w53 ⟨v407, rfl, ho0, hb⟩; have n0_ := Aside0.mk (Kd.R_lower ho0 (below_size (by repeat (first | (with_reducible first | exact HB.out | apply below_alloc | apply pw_below_drewN | apply below_drew1) | exact HB.out)))); have n1_ := Aside0.mk (below_step (by repeat (first | (with_reducible first | exact HB.out | apply below_alloc | apply pw_below_drewN | apply below_drew1) | exact HB.out)) hb); clear HB; have HO408 := n0_; have HB := n1_; clear n0_ n1_; (try clear hb); (try clear hb2); (try clear hk); (try clear hi); (try clear ho0)) | (go_at_call 36; (with_reducible refine (missiveref09_Set.calls kj31 _ _ l1 a2 a3 t409 _ ?side1 ?side2 A47.out).mono ?_); (case side1 => repeat (first | exact (Kd.C_below HR1.out HB.out) | (with_reducible refine Kd.C_alloc ?_ _) | (with_reducible refine Kd.C_drewN ?_ _) | (with_reducible refine Kd.C_drew ?_))); (case side2 => exact HC1.out); rintro e w54 ⟨v410, rfl, ho0, hb⟩; have n0_ := Aside0.mk (Kd.R_elder' (by (with_reducible repeat (first | apply Kd.R_alloc | apply Kd.R_drewN | apply Kd.R_drew)); exact HO408.out) (Kd.R_base ho0) hb); have n1_ := Aside0.mk (Kd.R_lower (Kd.R_new' ho0 (Kd.R_lt (by (with_reducible repeat (first | apply Kd.R_alloc | apply Kd.R_drewN | apply Kd.R_drew)); exact HO408.out))) (below_size (by repeat (first | (with_reducible first | exact HB.out | apply below_alloc | apply pw_below_drewN | apply below_drew1) | exact HB.out)))); have n2_ := Aside0.mk (below_step (by repeat (first | (with_reducible first | exact HB.out | apply below_alloc | apply pw_below_drewN | apply below_drew1) | exact HB.out)) hb); clear HO408; clear HB; have HO408 := n0_; have HO411 := n1_; have HB := n2_; clear n0_ n1_ n2_; (try clear hb); (try clear hb2); (try clear hk); (try clear hi); (try clear ho0); obtain ⟨Ao55, co55, eo55⟩ := Kd.R_slice HO408.out; subst eo55; obtain ⟨Ao56, co56, eo56⟩ := Kd.R_slice HO411.out; subst eo56) | (go_at_call 23; (with_reducible refine (missiveref09_Same.calls kj31 _ _ t406 _ _ t409 true _ ?side1 ?side2 ?side3 ?side4 A48.out).mono ?_); (case side1 => repeat (first | exact (Kd.R_reads' HO408.out).2.2 | (with_reducible refine Kd.C_alloc ?_ _) | (with_reducible refine Kd.C_drewN ?_ _) | (with_reducible refine Kd.C_drew ?_))); (case side2 => exact (Kd.R_reads' HO408.out).2.1); (case side3 => repeat (first | exact (Kd.R_reads' HO411.out).2.2 | (with_reducible refine Kd.C_alloc ?_ _) | (with_reducible refine Kd.C_drewN ?_ _) | (with_reducible refine Kd.C_drew ?_))); (case side4 => exact (Kd.R_reads' HO411.out).2.1); rintro e w' ⟨rfl, ⟨nd, rfl⟩⟩) | (go_at_call 37; (with_reducible refine (header_Drop.calls kj31 _ _ l1 a2 t413 _ ?side1 ?side2 A50.out).mono ?_); (case side1 => repeat (first | exact (Kd.C_below HR1.out (by repeat (first | (with_reducible first | exact HB.out | apply below_alloc | apply pw_below_drewN | apply below_drew1) | exact HB.out))) | (with_reducible refine Kd.C_alloc ?_ _) | (with_reducible refine Kd.C_drewN ?_ _) | (with_reducible refine Kd.C_drew ?_))); (case side2 => exact HC1.out); rintro e w57 ⟨v414, rfl, ho0, hb⟩; have n0_ := Aside0.mk (Kd.R_elder' (by (with_reducible repeat (first | apply Kd.R_alloc | apply Kd.R_drewN | apply Kd.R_drew)); exact HO408.out) (Kd.R_base ho0) hb); have n1_ := Aside0.mk (Kd.R_elder' (by (with_reducible repeat (first | apply Kd.R_alloc | apply Kd.R_drewN | apply Kd.R_drew)); exact HO411.out) (Kd.R_base ho0) hb); have n2_ := Aside0.mk (Kd.R_lower (Kd.R_new' (Kd.R_new' ho0 (Kd.R_lt (by (with_reducible repeat (first | apply Kd.R_alloc | apply Kd.R_drewN | apply Kd.R_drew)); exact HO408.out))) (Kd.R_lt (by (with_reducible repeat (first | apply Kd.R_alloc | apply Kd.R_drewN | apply Kd.R_drew)); exact HO411.out))) (below_size (by repeat (first | (with_reducible first | exact HB.out | apply below_alloc | apply pw_below_drewN | apply below_drew1) | exact HB.out)))); have n3_ := Aside0.mk (below_step (by repeat (first | (with_reducible first | exact HB.out | apply below_alloc | apply pw_below_drewN | apply below_drew1) | exact HB.out)) hb); clear HO408; clear HO411; clear HB; have HO408 := n0_; have HO411 := n1_; have HO415 := n2_; have HB := n3_; clear n0_ n1_ n2_ n3_; (try clear hb); (try clear hb2); (try clear hk); (try clear hi); (try clear ho0)) | (go_at_call 38; (with_reducible refine (missiveref09_Drop.calls kj31 _ _ l1 a2 t416 _ ?side1 ?side2 A51.out).mono ?_); (case side1 => repeat (first | exact (Kd.C_below HR1.out HB.out) | (with_reducible refine Kd.C_alloc ?_ _) | (with_reducible refine Kd.C_drewN ?_ _) | (with_reducible refine Kd.C_drew ?_))); (case side2 => exact HC1.out); rintro e w58 ⟨v417, rfl, ho0, hb⟩; have n0_ := Aside0.mk (Kd.R_elder' (by (with_reducible repeat (first | apply Kd.R_alloc | apply Kd.R_drewN | apply Kd.R_drew)); exact HO408.out) (Kd.R_base ho0) hb); have n1_ := Aside0.mk (Kd.R_elder' (by (with_reducible repeat (first | apply Kd.R_alloc | apply Kd.R_drewN | apply Kd.R_drew)); exact HO411.out) (Kd.R_base ho0) hb); have n2_ := Aside0.mk (Kd.R_elder' (by (with_reducible repeat (first | apply Kd.R_alloc | apply Kd.R_drewN | apply Kd.R_drew)); exact HO415.out) (Kd.R_base ho0) hb); have n3_ := Aside0.mk (Kd.R_lower (Kd.R_new' (Kd.R_new' (Kd.R_new' ho0 (Kd.R_lt (by (with_reducible repeat (first | apply Kd.R_alloc | apply Kd.R_drewN | apply Kd.R_drew)); exact HO408.out))) (Kd.R_lt (by (with_reducible repeat (first | apply Kd.R_alloc | apply Kd.R_drewN | apply Kd.R_drew)); exact HO411.out))) (Kd.R_lt (by (with_reducible repeat (first | apply Kd.R_alloc | apply Kd.R_drewN | apply Kd.R_drew)); exact HO415.out))) (below_size (by repeat (first | (with_reducible first | exact HB.out | apply below_alloc | apply pw_below_drewN | apply below_drew1) | exact HB.out)))); have n4_ := Aside0.mk (below_step (by repeat (first | (with_reducible first | exact HB.out | apply below_alloc | apply pw_below_drewN | apply below_drew1) | exact HB.out)) hb); clear HO408; clear HO411; clear HO415; clear HB; have HO408 := n0_; have HO411 := n1_; have HO415 := n2_; have HO418 := n3_; have HB := n4_; clear n0_ n1_ n2_ n3_ n4_; (try clear hb); (try clear hb2); (try clear hk); (try clear hi); (try clear ho0); obtain ⟨Ao59, co59, eo59⟩ := Kd.R_slice HO415.out; subst eo59; obtain ⟨Ao60, co60, eo60⟩ := Kd.R_slice HO418.out; subst eo60) | (go_at_call 23; (with_reducible refine (missiveref09_Same.calls kj31 _ _ t413 _ _ t416 t419 _ ?side1 ?side2 ?side3 ?side4 A52.out).mono ?_); (case side1 => repeat (first | exact (Kd.R_reads' HO415.out).2.2 | (with_reducible refine Kd.C_alloc ?_ _) | (with_reducible refine Kd.C_drewN ?_ _) | (with_reducible refine Kd.C_drew ?_))); (case side2 => exact (Kd.R_reads' HO415.out).2.1); (case side3 => repeat (first | exact (Kd.R_reads' HO418.out).2.2 | (with_reducible refine Kd.C_alloc ?_ _) | (with_reducible refine Kd.C_drewN ?_ _) | (with_reducible refine Kd.C_drew ?_))); (case side4 => exact (Kd.R_reads' HO418.out).2.1); rintro e w' ⟨rfl, ⟨nd, rfl⟩⟩))
                        go_ret
                        exact ⟨by first | rfl | (simp [errW_none, errW_some]; done) | (simp [errW_none, errW_some]; exact isEmpty_nbne _) | (simp [errW_none, errW_some]; exact isEmpty_bne _) | (simp [errW_none, errW_some] <;> rfl) | (simp [*, errW_none, errW_some] <;> rfl), by repeat (first | (with_reducible first | exact HB.out | apply below_alloc | apply pw_below_drewN | apply below_drew1) | exact HB.out)⟩
                      · replace c49 := Bool.eq_false_iff.mpr c49
                        subst c49
                        have H1 : (some false) = some r := by rw [if_neg (show ¬ (false = true) by decide)] at H; exact H
                        clear H
                        have H := H1
                        clear H1
                        obtain rfl := Option.some.inj H
                        go_wp2_with (first | (go_at_call 35; (with_reducible refine (header_Set.calls kj31 _ _ l1 a2 a3 t406 _ ?side1 ?side2 A46.out).mono ?_); (case side1 => repeat (first | exact (Kd.C_below HR1.out HB.out) | (with_reducible refine Kd.C_alloc ?_ _) | (with_reducible refine Kd.C_drewN ?_ _) | (with_reducible refine Kd.C_drew ?_))); (case side2 => exact HC1.out); rintro e w61 ⟨v407, rfl, ho0, hb⟩; have n0_ := Aside0.mk (Kd.R_lower ho0 (below_size (by repeat (first | (with_reducible first | exact HB.out | apply below_alloc | apply pw_below_drewN | apply below_drew1) | exact HB.out)))); have n1_ := Aside0.mk (below_step (by repeat (first | (with_reducible first | exact HB.out | apply below_alloc | apply pw_below_drewN | apply below_drew1) | exact HB.out)) hb); clear HB; have HO408 := n0_; have HB := n1_; clear n0_ n1_; (try clear hb); (try clear hb2); (try clear hk); (try clear hi); (try clear ho0)) | (go_at_call 36; (with_reducible refine (missiveref09_Set.calls kj31 _ _ l1 a2 a3 t409 _ ?side1 ?side2 A47.out).mono ?_); (case side1 => repeat (first | exact (Kd.C_below HR1.out HB.out) | (with_reducible refine Kd.C_alloc ?_ _) | (with_reducible refine Kd.C_drewN ?_ _) | (with_reducible refine Kd.C_drew ?_))); (case side2 => exact HC1.out); rintro e w62 ⟨v410, rfl, ho0, hb⟩; have n0_ := Aside0.mk (Kd.R_elder' (by (with_reducible repeat (first | apply Kd.R_alloc | apply Kd.R_drewN | apply Kd.R_drew)); exact HO408.out) (Kd.R_base ho0) hb); have n1_ := Aside0.mk (Kd.R_lower (Kd.R_new' ho0 (Kd.R_lt (by (with_reducible repeat (first | apply Kd.R_alloc | apply Kd.R_drewN | apply Kd.R_drew)); exact HO408.out))) (below_size (by repeat (first | (with_reducible first | exact HB.out | apply below_alloc | apply pw_below_drewN | apply below_drew1) | exact HB.out)))); have n2_ := Aside0.mk (below_step (by repeat (first | (with_reducible first | exact HB.out | apply below_alloc | apply pw_below_drewN | apply below_drew1) | exact HB.out)) hb); clear HO408; clear HB; have HO408 := n0_; have HO411 := n1_; have HB := n2_; clear n0_ n1_ n2_; (try clear hb); (try clear hb2); (try clear hk); (try clear hi); (try clear ho0); obtain ⟨Ao63, co63, eo63⟩ := Kd.R_slice HO408.out; subst eo63; obtain ⟨Ao64, co64, eo64⟩ := Kd.R_slice HO411.out; subst eo64) | (go_at_call 23; (with_reducible refine (missiveref09_Same.calls kj31 _ _ t406 _ _ t409 false _ ?side1 ?side2 ?side3 ?side4 A48.out).mono ?_); (case side1 => repeat (first | exact (Kd.R_reads' HO408.out).2.2 | (with_reducible refine Kd.C_alloc ?_ _) | (with_reducible refine Kd.C_drewN ?_ _) | (with_reducible refine Kd.C_drew ?_))); (case side2 => exact (Kd.R_reads' HO408.out).2.1); (case side3 => repeat (first | exact (Kd.R_reads' HO411.out).2.2 | (with_reducible refine Kd.C_alloc ?_ _) | (with_reducible refine Kd.C_drewN ?_ _) | (with_reducible refine Kd.C_drew ?_))); (case side4 => exact (Kd.R_reads' HO411.out).2.1); rintro e w' ⟨rfl, ⟨nd, rfl⟩⟩))
                        go_ret
                        exact ⟨by first | rfl | (simp [errW_none, errW_some]; done) | (simp [errW_none, errW_some]; exact isEmpty_nbne _) | (simp [errW_none, errW_some]; exact isEmpty_bne _) | (simp [errW_none, errW_some] <;> rfl) | (simp [*, errW_none, errW_some] <;> rfl), by repeat (first | (with_reducible first | exact HB.out | apply below_alloc | apply pw_below_drewN | apply below_drew1) | exact HB.out)⟩
                    · replace c45 := Bool.eq_false_iff.mpr c45
                      subst c45
                      have H1 : (some false) = some r := by rw [if_neg (show ¬ (false = true) by decide)] at H; exact H
                      clear H
                      have H := H1
                      clear H1
                      obtain rfl := Option.some.inj H
                      go_wp2
                      go_ret
                      exact ⟨by first | rfl | (simp [errW_none, errW_some]; done) | (simp [errW_none, errW_some]; exact isEmpty_nbne _) | (simp [errW_none, errW_some]; exact isEmpty_bne _) | (simp [errW_none, errW_some] <;> rfl) | (simp [*, errW_none, errW_some] <;> rfl), by repeat (first | (with_reducible first | exact HB.out | apply below_alloc | apply pw_below_drewN | apply below_drew1) | exact HB.out)⟩
end Go.Proofs.YtieompfmhnpnaaaGreat.H
end
section
namespace Go.Proofs.YtieompfmhnpnaaaGreat.H
open Go.RowKit Go.Proofs.YtieompfmhnpnaaaGreatW.PrintWords Go.Proofs.YtieompfmhnpnaaaGreatW.PrintLast Go.Proofs.YtieompfmhnpnaaaGreatW.PrintMore
set_option linter.unusedVariables false
set_option linter.unusedSimpArgs false
theorem refsame (a b : ByteArray) (ha : a.size ≤ 1099511627776) (hb : b.size ≤ 1099511627776) : missiveref01_Same.f a b = some (sameB a b) := by
  unfold missiveref01_Same.f missiveref01_Lower.f
  rw [if_pos ha, if_pos hb]
  simp only [Option.bind_some]
  unfold sameB
  rw [toList_bl, toList_bl]
  rfl
section
variable (l : List S35) (nm : ByteArray) (hs : Small35 l) (hnm : nm.size ≤ 1099511627776)
include hs hnm
theorem refget_l0 : ∀ (n i : Nat), i + n = l.length → Ev (fun k => missiveref09_Get.l0 k l nm (i : Int)) (getS (l.drop i) nm)
  | 0, i, hi => by
    refine Ev.step (fun k => by simp only [missiveref09_Get.l0]; rfl) ?_
    refine ev_no (by omega) ?_
    exact ev_done (by rw [List.drop_of_length_le (by omega)]; rfl)
  | n + 1, i, hi => by
    have hl := hs.1
    refine Ev.step (fun k => by simp only [missiveref09_Get.l0]; rfl) ?_
    rw [refsame _ nm (hs.at (i := i) (by omega)) hnm, wrap_up i (by omega)]
    simp only [Option.bind_some]
    refine ev_yes (by omega) (ev_yes (by omega) ?_)
    rw [drop35 l i (by omega), getS]
    by_cases h : sameB (rd_T35 l (i : Int)).f0 nm = true
    · rw [if_pos h]
      exact ev_yes h (Ev.now _)
    · rw [if_neg h]
      exact ev_no h (refget_l0 n (i + 1) (by omega))
theorem refget_ev : Ev (fun k => missiveref09_Get.f k l nm) (getS l nm) := by
  have := refget_l0 l nm hs hnm l.length 0 (by omega)
  simpa [missiveref09_Get.f] using this
theorem refall_l0 : ∀ (n i : Nat) (acc : List ByteArray), i + n = l.length → acc.length ≤ i → Ev (fun k => missiveref09_All.l0 k l nm acc (i : Int)) (acc ++ allS (l.drop i) nm)
  | 0, i, acc, hi, ha => by
    refine Ev.step (fun k => by simp only [missiveref09_All.l0]; rfl) ?_
    refine ev_no (by omega) ?_
    exact ev_done (by rw [List.drop_of_length_le (by omega)]; simp [allS])
  | n + 1, i, acc, hi, ha => by
    have hl := hs.1
    refine Ev.step (fun k => by simp only [missiveref09_All.l0]; rfl) ?_
    rw [refsame _ nm (hs.at (i := i) (by omega)) hnm, wrap_up i (by omega)]
    simp only [Option.bind_some]
    refine ev_yes (by omega) (ev_yes (by omega) ?_)
    rw [drop35 l i (by omega)]
    by_cases h : sameB (rd_T35 l (i : Int)).f0 nm = true
    · refine ev_yes h (ev_yes (by omega) ?_)
      have e : acc ++ allS (rd_T35 l (i : Int) :: l.drop (i + 1)) nm = (acc ++ [(rd_T35 l (i : Int)).f1]) ++ allS (l.drop (i + 1)) nm := by
        unfold allS
        rw [List.filter_cons_of_pos (p := fun f : S35 => sameB f.f0 nm) h]
        simp
      rw [e]
      exact refall_l0 n (i + 1) _ (by omega) (by simp; omega)
    · refine ev_no h ?_
      have e : allS (rd_T35 l (i : Int) :: l.drop (i + 1)) nm = allS (l.drop (i + 1)) nm := by
        unfold allS
        rw [List.filter_cons_of_neg (p := fun f : S35 => sameB f.f0 nm) h]
      rw [e]
      exact refall_l0 n (i + 1) _ (by omega) (by omega)
theorem refall_ev : Ev (fun k => missiveref09_All.f k l nm) (allS l nm) := by
  have := refall_l0 l nm hs hnm l.length 0 [] (by omega) (by simp)
  simpa [missiveref09_All.f] using this
theorem refdrop_l0 : ∀ (n i : Nat) (acc : List S35), i + n = l.length → acc.length ≤ i → Ev (fun k => missiveref09_Drop.l0 k l nm acc (i : Int)) (acc ++ dropS (l.drop i) nm)
  | 0, i, acc, hi, ha => by
    refine Ev.step (fun k => by simp only [missiveref09_Drop.l0]; rfl) ?_
    refine ev_no (by omega) ?_
    exact ev_done (by rw [List.drop_of_length_le (by omega)]; simp [dropS])
  | n + 1, i, acc, hi, ha => by
    have hl := hs.1
    refine Ev.step (fun k => by simp only [missiveref09_Drop.l0]; rfl) ?_
    rw [refsame _ nm (hs.at (i := i) (by omega)) hnm, wrap_up i (by omega)]
    simp only [Option.bind_some]
    refine ev_yes (by omega) (ev_yes (by omega) ?_)
    rw [drop35 l i (by omega)]
    by_cases h : sameB (rd_T35 l (i : Int)).f0 nm = true
    · refine ev_yes h ?_
      have e : dropS (rd_T35 l (i : Int) :: l.drop (i + 1)) nm = dropS (l.drop (i + 1)) nm := by
        unfold dropS
        rw [List.filter_cons_of_neg (by simp [h])]
      rw [e]
      exact refdrop_l0 n (i + 1) _ (by omega) (by omega)
    · refine ev_no h (ev_yes (by omega) ?_)
      have e : acc ++ dropS (rd_T35 l (i : Int) :: l.drop (i + 1)) nm = (acc ++ [(⟨(rd_T35 l (i : Int)).f0, (rd_T35 l (i : Int)).f1⟩ : S35)]) ++ dropS (l.drop (i + 1)) nm := by
        unfold dropS
        rw [List.filter_cons_of_pos (by simp [h])]
        simp
      rw [e]
      exact refdrop_l0 n (i + 1) _ (by omega) (by simp; omega)
theorem refdrop_ev : Ev (fun k => missiveref09_Drop.f k l nm) (dropS l nm) := by
  have := refdrop_l0 l nm hs hnm l.length 0 [] (by omega) (by simp)
  simpa [missiveref09_Drop.f] using this
theorem refset_l0 (v : ByteArray) : ∀ (n i : Nat) (acc : List S35) (found : Bool), i + n = l.length → acc.length ≤ i → Ev (fun k => missiveref09_Set.l0 k l nm v acc found (i : Int)) (acc ++ setL nm v found (l.drop i))
  | 0, i, acc, found, hi, ha => by
    have hl := hs.1
    refine Ev.step (fun k => by simp only [missiveref09_Set.l0]; rfl) ?_
    refine ev_no (by omega) ?_
    rw [List.drop_of_length_le (by omega), setL]
    cases found with
    | true => exact ev_yes rfl (ev_done (by simp))
    | false =>
      refine ev_no (by decide) (ev_yes (by omega) (ev_done ?_))
      simp
  | n + 1, i, acc, found, hi, ha => by
    have hl := hs.1
    refine Ev.step (fun k => by simp only [missiveref09_Set.l0]; rfl) ?_
    rw [refsame _ nm (hs.at (i := i) (by omega)) hnm]
    simp only [Option.bind_some]
    refine ev_yes (by omega) (ev_yes (by omega) ?_)
    rw [drop35 l i (by omega), setL]
    by_cases h : sameB (rd_T35 l (i : Int)).f0 nm = true
    · refine ev_yes h ?_
      rw [if_pos h]
      refine Ev.step (fun k => by simp only [missiveref09_Set.j1]; rfl) ?_
      rw [wrap_up i (by omega)]
      cases found with
      | true =>
        refine ev_no (by decide) (ev_yes h ?_)
        rw [if_pos rfl]
        exact refset_l0 v n (i + 1) _ _ (by omega) (by omega)
      | false =>
        refine ev_yes (by decide) (ev_yes (by omega) ?_)
        have e : acc ++ (if false = true then setL nm v false (l.drop (i + 1)) else ⟨nm, v⟩ :: setL nm v true (l.drop (i + 1))) = (acc ++ [(⟨nm, v⟩ : S35)]) ++ setL nm v true (l.drop (i + 1)) := by simp
        rw [e]
        exact refset_l0 v n (i + 1) _ _ (by omega) (by simp; omega)
    · refine ev_no h ?_
      rw [if_neg h]
      refine Ev.step (fun k => by simp only [missiveref09_Set.j1]; rfl) ?_
      rw [wrap_up i (by omega)]
      refine ev_no (by decide) (ev_no h (ev_yes (by omega) (ev_yes (by omega) (ev_yes (by omega) ?_))))
      have e : acc ++ rd_T35 l (i : Int) :: setL nm v found (l.drop (i + 1)) = (acc ++ [(⟨(rd_T35 l (i : Int)).f0, (rd_T35 l (i : Int)).f1⟩ : S35)]) ++ setL nm v found (l.drop (i + 1)) := by simp
      rw [e]
      exact refset_l0 v n (i + 1) _ _ (by omega) (by simp; omega)
theorem refset_ev (v : ByteArray) : Ev (fun k => missiveref09_Set.f k l nm v) (setS l nm v) := by
  have := refset_l0 l nm hs hnm v l.length 0 [] false (by omega) (by simp)
  simpa [missiveref09_Set.f, setS] using this
end
theorem samet_l0 (a : List ByteArray) (hs : a.length ≤ 1099511627776) : ∀ (n i : Nat), i + n = a.length → Ev (fun k => missiveref09_SameTexts.l0 k a a (i : Int)) true
  | 0, i, hi => by
    refine Ev.step (fun k => by simp only [missiveref09_SameTexts.l0]; rfl) ?_
    exact ev_no (by omega) (Ev.now _)
  | n + 1, i, hi => by
    refine Ev.step (fun k => by simp only [missiveref09_SameTexts.l0]; rfl) ?_
    rw [wrap_up i (by omega)]
    exact ev_yes (by omega) (ev_yes (by omega) (ev_yes (by omega) (ev_yes (by trivial) (samet_l0 a hs n (i + 1) (by omega)))))
theorem samet_ev (a : List ByteArray) (hs : a.length ≤ 1099511627776) : Ev (fun k => missiveref09_SameTexts.f k a a) true := by
  unfold missiveref09_SameTexts.f
  refine ev_yes (by omega) ?_
  have := samet_l0 a hs a.length 0 (by omega)
  simpa using this
theorem lineS_size2 (f : S35) : (lineS f).size ≤ f.f0.size + f.f1.size + 2 := by
  have hcl : (crlfS f.f1).size = f.f1.size := by rw [← bl_length, bl_crlf, List.length_map, bl_length]
  have hts := trim_size (crlfS f.f1)
  unfold lineS
  split
  · rw [ByteArray.size_append, show (⟨#[58]⟩ : ByteArray).size = 1 from rfl]; omega
  · rw [ByteArray.size_append, ByteArray.size_append, ByteArray.size_append, show (⟨#[58]⟩ : ByteArray).size = 1 from rfl, show (⟨#[32]⟩ : ByteArray).size = 1 from rfl]; omega
theorem refwrite_l0 (l : List S35) (hl : ∀ f ∈ l, f.f0.size ≤ 6000 ∧ f.f1.size ≤ 6000) (hn : l.length ≤ 1000000) : ∀ (n i : Nat) (a : List UInt8), i + n = l.length → a.length ≤ 30000 * i →
    Ev (fun k => missiveref09_Write.l0 k l (mkB a) (i : Int)) (mkB (a ++ writeL (l.drop i)))
  | 0, i, a, hi, ha => by
    refine Ev.step (fun k => by simp only [missiveref09_Write.l0]; rfl) ?_
    refine ev_no (by omega) (ev_done ?_)
    rw [List.drop_of_length_le (by omega)]
    simp [writeL]
  | n + 1, i, a, hi, ha => by
    have hf := hl _ (List.getElem_mem (show i < l.length by omega))
    refine Ev.step (fun k => by simp only [missiveref09_Write.l0]; rfl) ?_
    rw [rd35 l i (by omega), wrap_up i (by omega)]
    refine ev_yes (by omega) (ev_yes (by omega) ?_)
    refine Ev.bind (named_ev _ (by omega)) ?_
    have ew : writeL (l.drop i) = fieldL l[i] ++ writeL (l.drop (i + 1)) := by
      rw [List.drop_eq_getElem_cons (by omega)]
      rfl
    rw [ew]
    by_cases h : isNameB l[i].f0 = true
    · refine ev_yes h ?_
      have h200 : l[i].f0.size ≤ 200 := by
        have := h
        unfold isNameB at this
        simp only [Bool.and_eq_true, decide_eq_true_eq] at this
        exact this.1.2
      have hone : ∀ k, missiveref09_One.f k l[i].f0 l[i].f1 = some (mkB (fieldL l[i])) := fun k => by
        unfold missiveref09_One.f
        rw [if_pos ⟨by omega, by omega⟩]
        unfold fieldL oneL
        rw [if_pos h]
      simp only [hone, Option.bind_some]
      have h3 : (fieldL l[i]).length ≤ 30000 := by
        unfold fieldL
        rw [if_pos h]
        have h1 := foldL_length (lineS l[i]).size (lineS l[i]) (l[i].f0.size + 1)
        have h2 := lineS_size2 l[i]
        omega
      refine ev_yes (by rw [mkB_size, mkB_size]; omega) ?_
      rw [mkB_app]
      have ih := refwrite_l0 l hl hn n (i + 1) (a ++ fieldL l[i]) (by omega) (by rw [List.length_append]; omega)
      rw [List.append_assoc] at ih
      exact ih
    · refine ev_no h ?_
      have e : fieldL l[i] = [] := by unfold fieldL; rw [if_neg h]
      rw [e, List.nil_append]
      exact refwrite_l0 l hl hn n (i + 1) a (by omega) (by omega)
theorem refwrite_ev (l : List S35) (hl : ∀ f ∈ l, f.f0.size ≤ 6000 ∧ f.f1.size ≤ 6000) (hn : l.length ≤ 1000000) : Ev (fun k => missiveref09_Write.f k l) (mkB (writeL l)) := by
  have h := refwrite_l0 l hl hn l.length 0 [] (by omega) (by simp)
  exact h
theorem wsum_bytes3 (l : List S35) : wsum l = 4 * bytesF l + 16 * l.length := by
  induction l with
  | nil => rfl
  | cons f l ih =>
    unfold wsum bytesF at *
    rw [List.map_cons, List.sum_cons, List.map_cons, List.sum_cons, List.length_cons]
    omega
theorem parse_len (s : ByteArray) (hs : s.size ≤ 1048576) : (parseS s).1.length ≤ 400 := by
  have : ∀ (xs : List LineX) (st : PS), st.fs.length ≤ 400 → (foldP st xs).fs.length ≤ 400 := by
    intro xs
    induction xs with
    | nil => intro st h; exact h
    | cons x xs ih =>
      intro st h
      have hst : (stepP st x).1.fs.length ≤ 400 := by
        unfold stepP
        split
        · exact h
        · split
          · exact h
          · split
            · exact h
            · rename_i h3
              dsimp only
              rw [List.length_append, doneF_length]
              simp only [not_or] at h3
              simp; omega
      show (if (stepP st x).2 then _ else _ : PS).fs.length ≤ 400
      split
      · exact ih _ hst
      · exact hst
  unfold parseS
  dsimp only
  rw [doneF_length]
  exact this _ _ (by simp)
theorem allS_len (l : List S35) (nm : ByteArray) : (allS l nm).length ≤ l.length := by
  unfold allS
  rw [List.length_map]
  exact List.length_filter_le _ _
theorem setL_len (nm v : ByteArray) : ∀ (l : List S35) (b : Bool), (setL nm v b l).length ≤ l.length + 1
  | [], b => by unfold setL; split <;> simp
  | f :: fs, b => by
    have h1 := setL_len nm v fs b
    have h2 := setL_len nm v fs true
    unfold setL
    split
    · split
      · rw [List.length_cons]; omega
      · rw [List.length_cons, List.length_cons]; omega
    · rw [List.length_cons, List.length_cons]; omega
theorem tells_j0_done (s : ByteArray) (l : List S35) (nm v : ByteArray) : Ev (fun k => missivelaw09_HeaderTells.j0 k s l nm v true true) true := by
  refine Ev.step (fun k => by simp only [missivelaw09_HeaderTells.j0]; rfl) ?_
  exact ev_yes (by trivial) (Ev.now _)
theorem tells_j0 (s : ByteArray) (l : List S35) (nm v : ByteArray) (hs : s.size ≤ 6000) (hf : fewS l = true) (hnm : nm.size ≤ 1000) (hv : v.size ≤ 1000) : Ev (fun k => missivelaw09_HeaderTells.j0 k s l nm v true false) true := by
  obtain ⟨h35, hlen, hby, hsz⟩ := fewS_small hf
  refine Ev.step (fun k => by simp only [missivelaw09_HeaderTells.j0]; rfl) ?_
  refine ev_no (by decide) ?_
  have hP : header_Parse.f s = some ((parseS s).1, ((parseS s).2 : Int)) := by unfold header_Parse.f; rw [if_pos (by omega)]
  have hW : header_Write.f l = some (mkB (writeL l)) := by unfold header_Write.f; rw [if_pos (by rw [wsum_bytes3]; omega)]
  simp only [hP, hW, Option.bind_some]
  refine Ev.bind (refparse_ev s (by omega)) (ev_yes (by trivial) ?_)
  have hpl := parse_len s (by omega)
  refine Ev.bind (eqf_ev _ _ (by omega)) ?_
  rw [eqF_refl]
  refine ev_yes (by trivial) ?_
  refine Ev.bind (refwrite_ev l hsz (by omega)) ?_
  have e1 : ((mkB (writeL l)).toList != (mkB (writeL l)).toList) = false := by simp
  simp only [e1]
  refine Ev.step (fun k => by simp only [missivelaw09_HeaderTells.j1]; rfl) ?_
  refine ev_no (by decide) ?_
  refine Ev.bind (get_ev l nm h35) (Ev.bind (refget_ev l nm h35 (by omega)) (ev_yes (by trivial) (ev_no (by simp) ?_)))
  refine Ev.bind (all_ev l nm h35) (Ev.bind (refall_ev l nm h35 (by omega)) ?_)
  have hal := allS_len l nm
  refine Ev.bind (samet_ev _ (by omega)) ?_
  refine Ev.step (fun k => by simp only [missivelaw09_HeaderTells.j2]; rfl) ?_
  refine ev_no (by decide) (ev_yes (by trivial) ?_)
  refine Ev.bind (set_ev l nm v h35) (Ev.bind (refset_ev l nm h35 (by omega) v) ?_)
  have hsl := setL_len nm v l false
  refine Ev.bind (eqf_ev _ _ (by unfold setS; omega)) ?_
  rw [eqF_refl]
  refine ev_yes (by trivial) ?_
  refine Ev.bind (drop_ev l nm h35) (Ev.bind (refdrop_ev l nm h35 (by omega)) ?_)
  have hdl : (dropS l nm).length ≤ l.length := List.length_filter_le _ _
  refine Ev.bind (eqf_ev _ _ (by omega)) ?_
  rw [eqF_refl]
  exact Ev.now _
theorem tells_ev (s : ByteArray) (l : List S35) (nm v : ByteArray) (hlen : l.length ≤ 4398046511104) : Ev (fun k => missivelaw09_HeaderTells.f k s l nm v) true := by
  unfold missivelaw09_HeaderTells.f
  refine Ev.bind small_ev ?_
  by_cases h1 : (s.size : Int) > 6000
  · exact ev_yes h1 (tells_j0_done s l nm v)
  · refine ev_no h1 ?_
    refine Ev.bind (few_ev l hlen) ?_
    by_cases hf : fewS l = true
    · refine ev_yes hf ?_
      by_cases h2 : (nm.size : Int) > 1000
      · exact ev_yes h2 (tells_j0_done s l nm v)
      · refine ev_no h2 ?_
        by_cases h3 : (v.size : Int) > 1000
        · simp only [decide_eq_true h3]
          exact tells_j0_done s l nm v
        · simp only [decide_eq_false h3]
          exact tells_j0 s l nm v (by omega) hf (by omega) (by omega)
    · exact ev_no hf (tells_j0_done s l nm v)
end Go.Proofs.YtieompfmhnpnaaaGreat.H
end
section
namespace Go.Proofs.YtieompfmhnpnaaaGreat.H
open Go.RowKit Go.ChangeShapes Go.WideShapes Go.Proofs.YtieompfmhnpnaaaGreatW.PrintWords Go.Proofs.YtieompfmhnpnaaaGreatW.PrintLast Go.Proofs.YtieompfmhnpnaaaGreatW.PrintMore
set_option linter.unusedVariables false
instance : Inhabited S35 := ⟨⟨⟨#[]⟩, ⟨#[]⟩⟩⟩
instance : Inhabited S25 := ⟨⟨⟨#[]⟩, ⟨#[]⟩⟩⟩
theorem open_fields {H : Type} {enc : TypeId × Value → H} {W : World} {base : Nat} {spare : Nat → Bool} {held : Bool} {a : Option Addr} {len cap : Nat} {d : DataW H} {ps : List MemPlace} {ts : List TypeId} {ds : List (DataW H)} {j : Nat}
    (hsz : (DataW.weightsEach Tryz.prog ts ds).all (· ≤ reachBytes) = true) (ht : ts[j]? = some 33) (hd : ds[j]? = some d)
    (h : DataW.Trod enc Tryz.prog W base spare held 33 (.slice a len cap) d ps) : ∃ l0 : List S35, l0.length = len ∧ len ≤ cap ∧ len ≤ 4398046511104 ∧ Kd.C k35 W a len l0 := by
  obtain ⟨fuel, hf⟩ := h
  rcases Deep.open_slice_pairs Tryz.underlying33 Tryz.underlying35 (by kernel_rfl) rfl rfl (by kernel_rfl) (by kernel_rfl) hf with ⟨hcs, _⟩ | ⟨x, l, c, m, n, V0, V1, D0, D1, P0, P1, hcs, _, hl, hm, hmm, hx, hcell⟩
  · simp [Value.cells] at hcs
    obtain ⟨rfl, rfl, rfl⟩ := hcs
    exact ⟨[], rfl, Nat.le_refl _, by omega, rfl, by omega, fun h => absurd h (by omega)⟩
  · simp [Value.cells] at hcs
    obtain ⟨rfl, rfl, rfl⟩ := hcs
    obtain ⟨hx, _⟩ := Prod.mk.inj hx
    subst hx
    have z := sized_slice hsz ht hd Tryz.underlying33
    have hb : Tryz.prog.bytesOf 35 = 32 := by kernel_rfl
    rw [hb] at z
    simp only [List.length_map, List.length_range] at z
    have z2 : len * 32 ≤ 140737488351232 := Nat.le_trans (Nat.mul_le_mul_right _ (Nat.le_add_right _ _)) z
    have hlm : len ≤ m := by rw [hmm]; split <;> omega
    have each : ∀ i, i < m → ∃ q : S35, W.cell? (x.add (i * 2)) = some (.string q.f0) ∧ W.cell? (x.add (i * 2 + 1)) = some (.string q.f1) := by
      intro i hi
      obtain ⟨h0, h1, h2, h3⟩ := hcell i hi
      obtain ⟨s0, e0, _, _⟩ := DataW.trod_string Tryz.underlying9 h2
      obtain ⟨s1, e1, _, _⟩ := DataW.trod_string Tryz.underlying9 h3
      injection e0 with e0
      injection e1 with e1
      exact ⟨⟨s0, s1⟩, by rw [h0, e0], by rw [h1, e1]⟩
    obtain ⟨S, hS⟩ := Deep.choose_lt each
    refine ⟨(List.range len).map S, by simp, hl, by omega, by simp, by omega, fun h0 => ⟨x, rfl, fun i p hp => ?_⟩⟩
    have hi : i < len := by
      have := (List.getElem?_eq_some_iff.1 hp).1
      simpa using this
    obtain rfl : S i = p := by simpa [hi] using hp
    refine ⟨[.string (S i).f0, .string (S i).f1], rfl, k35_mk W (S i), fun q u hq => ?_⟩
    obtain ⟨c0, c1⟩ := hS i (by omega)
    match q, hq with
    | 0, hq => simp at hq; subst hq; exact c0
    | 1, hq => simp at hq; subst hq; exact c1
end Go.Proofs.YtieompfmhnpnaaaGreat.H
end
section
namespace Go.Proofs.YtieompfmhnpnaaaGreat.headerTells
open Go.ChangeShapes Go.WideShapes Go.ChangeAt Go.RowKit
open Go.ChangeMaps (open_string shut_string)
set_option linter.unusedVariables false
theorem own : ownKnob Tryz.prog.godebug = none := by kernel_rfl
theorem laidOut : laidOutB Tryz.prog = true := by kernel_rfl
set_option maxRecDepth 100000 in
theorem lifted (os : Os) (started : os.Started) (H : Type) (enc : TypeId × Value → H) :
    ReturnsInHanded {} Tryz.checked os 8 .any (Rows.headerTellsSpec.pre6 enc Tryz.prog Tryz.f8 Rows.headerTellsRow.domain false) (Rows.headerTellsSpec.post enc Tryz.prog Tryz.f8 false true false false) := by
  refine returnsInHanded_of_change_sized (C := Tryz.checked) own started (by kernel_rfl) Tryz.func8
    (ChangeSpec.witness6 (enc := enc) (C := Tryz.checked) false ⟨#[], #[.string ByteArray.empty, .slice none 0 0, .string ByteArray.empty, .string ByteArray.empty], []⟩ 8 (by kernel_rfl) (by kernel_rfl) (by kernel_rfl) (by kernel_rfl)) ?_
  intro W base args ds gs before hval0 hW hcnd hsz0 _
  have hsz : (DataW.weightsEach Tryz.prog (Tryz.f8.params.toList ++ Rows.headerTellsSpec.plain.varTypes Tryz.prog) (ds ++ gs)).all (· ≤ reachBytes) = true := hsz0
  have hval : ∀ (j : Nat) t v, Tryz.f8.params[j]? = some t → args[j]? = some v → Value.okWide Tryz.prog W .any base t v := hval0
  have hW' := hW
  obtain ⟨p, q, hA0, hV, rfl, hfz, hnd⟩ := hW
  have hA : DataW.TrodAll enc Tryz.prog W 0 (fun _ => true) true Tryz.f8.params.toList args.toList ds p := hA0
  rw [Tryz.params8] at hA hval hsz
  obtain ⟨v0, vs0, d0, ds0, p0, q0, hargs, rfl, rfl, h0, r0⟩ := trodAll_cons hA
  obtain ⟨v1, vs1, d1, ds1, p1, q1, rfl, rfl, rfl, h1, r1⟩ := trodAll_cons r0
  obtain ⟨v2, vs2, d2, ds2, p2, q2, rfl, rfl, rfl, h2, r2⟩ := trodAll_cons r1
  obtain ⟨v3, vs3, d3, ds3, p3, q3, rfl, rfl, rfl, h3, r3⟩ := trodAll_cons r2
  obtain ⟨rfl, rfl, rfl⟩ := trodAll_nil r3
  obtain rfl : args = #[v0, v1, v2, v3] := by cases args; simp_all
  obtain ⟨rfl, rfl⟩ := trodVars_none hV
  obtain ⟨a0, rfl, rfl, rfl, y0⟩ := open_string Tryz.underlying9 (hval 0 9 v0 rfl rfl) h0
  obtain ⟨a1, len1, cap1, rfl⟩ := okWide_slice Tryz.underlying33 (hval 1 33 v1 rfl rfl)
  have k1 := h1
  have lt1 : ∀ x ∈ p1, x.block < W.heap.size := by obtain ⟨m, hm⟩ := k1; exact DataW.trod_lt m _ _ _ hm
  obtain ⟨z1, e1, w1, y1, c1⟩ := _root_.Go.Proofs.YtieompfmhnpnaaaGreat.H.open_fields hsz (j := 1) rfl rfl h1
  subst e1
  obtain ⟨a2, rfl, rfl, rfl, y2⟩ := open_string Tryz.underlying9 (hval 2 9 v2 rfl rfl) h2
  obtain ⟨a3, rfl, rfl, rfl, y3⟩ := open_string Tryz.underlying9 (hval 3 9 v3 rfl rfl) h3
  clear hA0 hval0 hsz0 hsz
  obtain ⟨k, hk⟩ := (_root_.Go.Proofs.YtieompfmhnpnaaaGreat.H.tells_ev a0 z1 a2 a3 y1).rounds
  refine (_root_.Go.Proofs.YtieompfmhnpnaaaGreat.H.missivelaw09_HeaderTells.calls k a0 a1 cap1 z1 a2 a3 true W c1 w1 hk).mono fun e W' ⟨he, bel⟩ => ?_
  subst he
  exact ⟨_, rfl, _, _, _, [], _, [], hW', trodAll_mk1 (shut_bool Tryz.underlying4 _), (trodAll_cons_mk (shut_string Tryz.underlying9 y0) (trodAll_cons_mk (Below.trod laidOut (by kernel_rfl) (of_decide_eq_true (by kernel_rfl)) k1 bel lt1) (trodAll_cons_mk (shut_string Tryz.underlying9 y2) (trodAll_cons_mk (shut_string Tryz.underlying9 y3) trodAll_mk0)))), rfl, bel.frame _, fun h => by cases h⟩
theorem over : Rows.headerTellsRow.holds Tryz.pinned (OpenSpec.ofChange Rows.headerTellsSpec) :=
  OpenClaim.holds_of_wide 8 Tryz.f8 rfl rfl rfl rfl rfl rfl rfl ⟨rfl, rfl, rfl, rfl, rfl⟩ rfl rfl rfl rfl rfl (by kernel_rfl) Tryz.func8 (by kernel_rfl)
    (of_decide_eq_true (by kernel_rfl)) (by unfold Func.isWrapper; first | (rw [if_pos (by decide +kernel)]; kernel_rfl) | (rw [if_neg (by decide +kernel)]; exact ⟨rfl, rfl⟩))
    (fun os started H enc _ => lifted os started H enc)
theorem proved : Rows.HeaderTellsSaid := over
#print axioms proved
end Go.Proofs.YtieompfmhnpnaaaGreat.headerTells
namespace Go.Proofs.YtieompfmhnpnaaaGreat
theorem headerTells_holds : Rows.HeaderTellsSaid := headerTells.proved
end Go.Proofs.YtieompfmhnpnaaaGreat
end
