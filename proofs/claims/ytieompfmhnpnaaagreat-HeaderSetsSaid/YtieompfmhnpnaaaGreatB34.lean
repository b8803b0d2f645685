-- written by ext.py, a program of this repo, over the kit's print.py
import Derived.Test.YtieompfmhnpnaaaGreatB0
import Derived.Test.YtieompfmhnpnaaaGreatBa
import Derived.Test.YtieompfmhnpnaaaGreatBb
import Derived.Test.YtieompfmhnpnaaaGreatXSmall
namespace Go.Proofs.YtieompfmhnpnaaaGreat.H
open Go.RowKit Go.Proofs.YtieompfmhnpnaaaGreatW.PrintWords Go.Proofs.YtieompfmhnpnaaaGreatW.PrintLast Go.Proofs.YtieompfmhnpnaaaGreatW.PrintMore
attribute [local go_sem] max2_int min2_int max_two min_two max_three min_three max_four min_four   -- for this text's walks alone
set_option linter.unusedVariables false
set_option linter.unusedSimpArgs false

/-! ### missivelaw09_HeaderSets: function 9 -/
mutual
def missivelaw09_HeaderSets.j0 : Nat → List (S35) → ByteArray → ByteArray → Bool → Bool → Option (Bool)
  | 0, _, _, _, _, _ => none
  | k + 1, x0, x1, x2, x7, x31 => if x31 = true then (some x7) else ((header_Set.f k x0 x1 x2).bind fun t422 => ((header_Drop.f k x0 x1).bind fun t425 => ((header_Get.f k t422 x1).bind fun bt428 => ((header_Get.f k t425 x1).bind fun bt430 => ((header_All.f k t422 x1).bind fun t432 => ((header_Get.f k x0 x1).bind fun bt435 => ((header_All.f k x0 x1).bind fun t437 => (if (bt435.2 != (decide ((t437.length : Int) > 0))) = true then (missivelaw09_HeaderSets.j1 k x0 x1 x2 x7 t422 t425 bt428.1 bt428.2 bt430.2 t432 t437 true) else (if bt435.2 = true then (if 0 < (t437.length : Int) then (if (rdOf ByteArray.empty t437 0).toList = bt435.1.toList then (missivelaw09_HeaderSets.j1 k x0 x1 x2 x7 t422 t425 bt428.1 bt428.2 bt430.2 t432 t437 false) else (missivelaw09_HeaderSets.j1 k x0 x1 x2 x7 t422 t425 bt428.1 bt428.2 bt430.2 t432 t437 true)) else (none)) else (missivelaw09_HeaderSets.j1 k x0 x1 x2 x7 t422 t425 bt428.1 bt428.2 bt430.2 t432 t437 (bt435.1.toList != ([] : List UInt8))))))))))))
def missivelaw09_HeaderSets.j1 : Nat → List (S35) → ByteArray → ByteArray → Bool → List (S35) → List (S35) → ByteArray → Bool → Bool → List ByteArray → List ByteArray → Bool → Option (Bool)
  | 0, _, _, _, _, _, _, _, _, _, _, _, _ => none
  | k + 1, x0, x1, x2, x7, x8, x9, x10, x11, x13, x14, x17, x86 => if x86 = true then (some false) else (if x7 = true then (if x11 = true then (if x10.toList = x2.toList then (if x13 = true then (some false) else (if (x14.length : Int) = 1 then ((header_Drop.f k x8 x1).bind fun t441 => ((missiveref09_Same.f k t441 x9).bind fun t444 => (if t444 = true then ((header_Set.f k x8 x1 x2).bind fun t445 => ((missiveref09_Same.f k t445 x8).bind fun t448 => (if t448 = true then (some ((wrap64 ((x9.length : Int) + (x17.length : Int))) == (x0.length : Int))) else (some false)))) else (some false)))) else (some false))) else (some false)) else (some false)) else (some false))
end
def missivelaw09_HeaderSets.f (k : Nat) (l0 : List (S35)) (a1 : ByteArray) (a2 : ByteArray) : Option (Bool) := (missivelaw09_small.f k).bind fun t420 => ((missivelaw09_few.f k l0).bind fun t421 => (if t421 = true then (if (a1.size : Int) > 1000 then (missivelaw09_HeaderSets.j0 k l0 a1 a2 t420 true) else (missivelaw09_HeaderSets.j0 k l0 a1 a2 t420 (decide ((a2.size : Int) > 1000)))) else (missivelaw09_HeaderSets.j0 k l0 a1 a2 t420 true)))
theorem missivelaw09_HeaderSets.mono_l : ∀ k, (∀ y0 y1 y2 y3 y4, LeO (missivelaw09_HeaderSets.j0 k y0 y1 y2 y3 y4) (missivelaw09_HeaderSets.j0 (k + 1) y0 y1 y2 y3 y4)) ∧ (∀ y0 y1 y2 y3 y4 y5 y6 y7 y8 y9 y10 y11, LeO (missivelaw09_HeaderSets.j1 k y0 y1 y2 y3 y4 y5 y6 y7 y8 y9 y10 y11) (missivelaw09_HeaderSets.j1 (k + 1) y0 y1 y2 y3 y4 y5 y6 y7 y8 y9 y10 y11))
  | 0 => ⟨fun _ _ _ _ _ r h => by simp [missivelaw09_HeaderSets.j0] at h, fun _ _ _ _ _ _ _ _ _ _ _ _ r h => by simp [missivelaw09_HeaderSets.j1] at h⟩
  | k + 1 => by
    obtain ⟨ih0, ih1⟩ := missivelaw09_HeaderSets.mono_l k
    refine ⟨?_, ?_⟩
    · intro y0 y1 y2 y3 y4
      unfold missivelaw09_HeaderSets.j0
      repeat' first
      | (with_reducible exact ih0 _ _ _ _ _)
      | (with_reducible exact ih1 _ _ _ _ _ _ _ _ _ _ _ _)
      | (with_reducible exact header_All.mono _ _ _)
      | (with_reducible exact header_Drop.mono _ _ _)
      | (with_reducible exact header_Get.mono _ _ _)
      | (with_reducible exact header_Set.mono _ _ _ _)
      | (with_reducible exact missivelaw09_few.mono _ _)
      | (with_reducible exact missivelaw09_small.mono _)
      | (with_reducible exact missiveref09_Same.mono _ _ _)
      | (with_reducible exact LeO.refl _)
      | (with_reducible exact LeO.none _)
      | (with_reducible refine LeO.ite ?_ ?_)
      | (with_reducible refine LeO.bind ?_ (fun _ => ?_))
      | exact ih0 _ _ _ _ _
      | exact ih1 _ _ _ _ _ _ _ _ _ _ _ _
      | exact header_All.mono _ _ _
      | exact header_Drop.mono _ _ _
      | exact header_Get.mono _ _ _
      | exact header_Set.mono _ _ _ _
      | exact missivelaw09_few.mono _ _
      | exact missivelaw09_small.mono _
      | exact missiveref09_Same.mono _ _ _
      | exact LeO.none _
      | refine LeO.ite ?_ ?_
      | refine LeO.bind ?_ (fun _ => ?_)
    · intro y0 y1 y2 y3 y4 y5 y6 y7 y8 y9 y10 y11
      unfold missivelaw09_HeaderSets.j1
      repeat' first
      | (with_reducible exact ih0 _ _ _ _ _)
      | (with_reducible exact ih1 _ _ _ _ _ _ _ _ _ _ _ _)
      | (with_reducible exact header_All.mono _ _ _)
      | (with_reducible exact header_Drop.mono _ _ _)
      | (with_reducible exact header_Get.mono _ _ _)
      | (with_reducible exact header_Set.mono _ _ _ _)
      | (with_reducible exact missivelaw09_few.mono _ _)
      | (with_reducible exact missivelaw09_small.mono _)
      | (with_reducible exact missiveref09_Same.mono _ _ _)
      | (with_reducible exact LeO.refl _)
      | (with_reducible exact LeO.none _)
      | (with_reducible refine LeO.ite ?_ ?_)
      | (with_reducible refine LeO.bind ?_ (fun _ => ?_))
      | exact ih0 _ _ _ _ _
      | exact ih1 _ _ _ _ _ _ _ _ _ _ _ _
      | exact header_All.mono _ _ _
      | exact header_Drop.mono _ _ _
      | exact header_Get.mono _ _ _
      | exact header_Set.mono _ _ _ _
      | exact missivelaw09_few.mono _ _
      | exact missivelaw09_small.mono _
      | exact missiveref09_Same.mono _ _ _
      | exact LeO.none _
      | refine LeO.ite ?_ ?_
      | refine LeO.bind ?_ (fun _ => ?_)
theorem missivelaw09_HeaderSets.mono : ∀ a0 a1 a2 k, LeO (missivelaw09_HeaderSets.f k a0 a1 a2) (missivelaw09_HeaderSets.f (k + 1) a0 a1 a2) := by
  intro a0 a1 a2 k
  obtain ⟨ih0, ih1⟩ := missivelaw09_HeaderSets.mono_l k
  unfold missivelaw09_HeaderSets.f
  repeat' first
      | (with_reducible exact ih0 _ _ _ _ _)
      | (with_reducible exact ih1 _ _ _ _ _ _ _ _ _ _ _ _)
      | (with_reducible exact header_All.mono _ _ _)
      | (with_reducible exact header_Drop.mono _ _ _)
      | (with_reducible exact header_Get.mono _ _ _)
      | (with_reducible exact header_Set.mono _ _ _ _)
      | (with_reducible exact missivelaw09_few.mono _ _)
      | (with_reducible exact missivelaw09_small.mono _)
      | (with_reducible exact missiveref09_Same.mono _ _ _)
      | (with_reducible exact LeO.refl _)
      | (with_reducible exact LeO.none _)
      | (with_reducible refine LeO.ite ?_ ?_)
      | (with_reducible refine LeO.bind ?_ (fun _ => ?_))
      | exact ih0 _ _ _ _ _
      | exact ih1 _ _ _ _ _ _ _ _ _ _ _ _
      | exact header_All.mono _ _ _
      | exact header_Drop.mono _ _ _
      | exact header_Get.mono _ _ _
      | exact header_Set.mono _ _ _ _
      | exact missivelaw09_few.mono _ _
      | exact missivelaw09_small.mono _
      | exact missiveref09_Same.mono _ _ _
      | exact LeO.none _
      | refine LeO.ite ?_ ?_
      | refine LeO.bind ?_ (fun _ => ?_)
set_option maxHeartbeats 8000000 in
set_option maxRecDepth 100000 in
theorem missivelaw09_HeaderSets.calls (k : Nat) (A0 : Option Addr) (c0 : Nat) (l0 : List (S35)) (a1 : ByteArray) (a2 : ByteArray) (r : Bool) (w : World) (hr0 : Kd.C k35 w A0 l0.length l0) (hc0 : l0.length ≤ c0) (h : missivelaw09_HeaderSets.f k l0 a1 a2 = some r) :
    Calls Tryz.prog 9 #[.slice A0 l0.length c0, .string a1, .string a2] w fun e w' => e = .returned (.bool r) ∧ Below w.heap.size w w' := by
  have HR0 := Aside0.mk hr0
  have HC0 := Aside0.mk hc0
  clear hr0 hc0
  have HB := Aside0.mk (Below.refl w.heap.size w)
  have H : ((missivelaw09_small.f k).bind fun t420 => ((missivelaw09_few.f k l0).bind fun t421 => (if t421 = true then (if (a1.size : Int) > 1000 then (missivelaw09_HeaderSets.j0 k l0 a1 a2 t420 true) else (missivelaw09_HeaderSets.j0 k l0 a1 a2 t420 (decide ((a2.size : Int) > 1000)))) else (missivelaw09_HeaderSets.j0 k l0 a1 a2 t420 true)))) = some r := h
  clear h
  replace H := Option.bind_eq_some_iff.mp H
  obtain ⟨t420, A40, H⟩ := H
  replace H : ((missivelaw09_few.f k l0).bind fun t421 => (if t421 = true then (if (a1.size : Int) > 1000 then (missivelaw09_HeaderSets.j0 k l0 a1 a2 t420 true) else (missivelaw09_HeaderSets.j0 k l0 a1 a2 t420 (decide ((a2.size : Int) > 1000)))) else (missivelaw09_HeaderSets.j0 k l0 a1 a2 t420 true))) = some r := H
  have A4 := Aside0.mk A40
  clear A40
  have HC5 := Aside0.mk H
  clear H
  go_enter Tryz.func9, Tryz.ntmps9
  go_upto_region 2 with (first | ((with_reducible refine gate_callee (f := 10) rfl ?_); refine goesL_ (some 18) rfl rfl Tryz.func10 (by kernel_rfl) rfl #[] rfl (by (try simp only [List.map_toArray, List.map_cons, List.map_nil]); first | done | rfl | (simp only [List.length_drop, List.length_take]; rfl)) ?_; (with_reducible refine (missivelaw09_small.calls k  t420 _ A4.out).mono ?_); rintro e w6 ⟨rfl, hb⟩; refine ⟨_, rfl, ?_⟩; have n0_ := Aside0.mk (below_step (by repeat (first | (with_reducible first | exact HB.out | apply below_alloc | apply pw_below_drewN | apply below_drew1) | exact HB.out)) hb); clear HB; have HB := n0_; clear n0_; (try clear hb); (try clear hb2); (try clear hk); (try clear hi)))
  (try simp only [Act.put, List.setIfInBounds_toArray, List.set_cons_zero, List.set_cons_succ])
  go_cut [31] (fun v31 wc => ∃ (kq : Nat) (x31_4 : Bool), v31 = .bool x31_4 ∧ Aside0 (missivelaw09_HeaderSets.j0 kq l0 a1 a2 t420 x31_4 = some r) ∧ Aside0 (kq ≤ k) ∧ Aside0 (Below w.heap.size w wc))
  case first =>
    have H := HC5.out
    clear HC5
    replace H := Option.bind_eq_some_iff.mp H
    obtain ⟨t421, A70, H⟩ := H
    replace H : (if t421 = true then (if (a1.size : Int) > 1000 then (missivelaw09_HeaderSets.j0 k l0 a1 a2 t420 true) else (missivelaw09_HeaderSets.j0 k l0 a1 a2 t420 (decide ((a2.size : Int) > 1000)))) else (missivelaw09_HeaderSets.j0 k l0 a1 a2 t420 true)) = some r := H
    have A7 := Aside0.mk A70
    clear A70
    by_cases c8 : t421 = true
    · subst c8
      have H1 : (if (a1.size : Int) > 1000 then (missivelaw09_HeaderSets.j0 k l0 a1 a2 t420 true) else (missivelaw09_HeaderSets.j0 k l0 a1 a2 t420 (decide ((a2.size : Int) > 1000)))) = some r := by rw [if_pos rfl] at H; exact H
      clear H
      have H := H1
      clear H1
      by_cases c9 : (a1.size : Int) > 1000
      · rw [if_pos c9] at H
        have c9b0 : decide (1000 < (a1.size : Int)) = true := decide_eq_true c9
        have c9b1 : decide (1000 < a1.size) = true := decide_eq_true (by omega)
        clear c9
        (first | rw [c9b0] | (simp only [i64_w, i32_w]; rw [c9b0]) | skip)
        have H' := Aside0.mk H
        clear H
        go_wp2_with (first | ((with_reducible refine gate_callee (f := 18) rfl ?_); refine goesL_ (some 20) rfl rfl Tryz.func18 (by kernel_rfl) rfl #[.slice A0 l0.length c0] rfl (by (try simp only [List.map_toArray, List.map_cons, List.map_nil]); first | done | rfl | (simp only [List.length_drop, List.length_take]; rfl)) ?_; (with_reducible refine (missivelaw09_few.calls k _ _ l0 true _ ?side1 ?side2 A7.out).mono ?_); (case side1 => repeat (first | exact (Kd.C_below HR0.out HB.out) | (with_reducible refine Kd.C_alloc ?_ _) | (with_reducible refine Kd.C_drewN ?_ _) | (with_reducible refine Kd.C_drew ?_))); (case side2 => exact HC0.out); rintro e w' ⟨rfl, ⟨nd, rfl⟩⟩; refine ⟨_, rfl, ?_⟩))
        go_meet
        case rel => exact ⟨_, (true), (by first | rfl | (simp; done) | (simp [*]; done)), H', ⟨by first | omega | exact Nat.le_refl _⟩, ⟨by repeat (first | (with_reducible first | exact HB.out | apply below_alloc | apply pw_below_drewN | apply below_drew1) | exact HB.out)⟩⟩
      · rw [if_neg c9] at H
        have c9b0 : decide (1000 < (a1.size : Int)) = false := decide_eq_false c9
        have c9b1 : decide (1000 < a1.size) = false := decide_eq_false (by omega)
        clear c9
        (first | rw [c9b0] | (simp only [i64_w, i32_w]; rw [c9b0]) | skip)
        have H' := Aside0.mk H
        clear H
        go_wp2_with (first | ((with_reducible refine gate_callee (f := 18) rfl ?_); refine goesL_ (some 20) rfl rfl Tryz.func18 (by kernel_rfl) rfl #[.slice A0 l0.length c0] rfl (by (try simp only [List.map_toArray, List.map_cons, List.map_nil]); first | done | rfl | (simp only [List.length_drop, List.length_take]; rfl)) ?_; (with_reducible refine (missivelaw09_few.calls k _ _ l0 true _ ?side1 ?side2 A7.out).mono ?_); (case side1 => repeat (first | exact (Kd.C_below HR0.out HB.out) | (with_reducible refine Kd.C_alloc ?_ _) | (with_reducible refine Kd.C_drewN ?_ _) | (with_reducible refine Kd.C_drew ?_))); (case side2 => exact HC0.out); rintro e w' ⟨rfl, ⟨nd, rfl⟩⟩; refine ⟨_, rfl, ?_⟩))
        go_meet
        case rel => exact ⟨_, (decide ((a2.size : Int) > 1000)), (by first | rfl | (simp; done) | (simp [*]; done)), H', ⟨by first | omega | exact Nat.le_refl _⟩, ⟨by repeat (first | (with_reducible first | exact HB.out | apply below_alloc | apply pw_below_drewN | apply below_drew1) | exact HB.out)⟩⟩
    · replace c8 := Bool.eq_false_iff.mpr c8
      subst c8
      have H1 : (missivelaw09_HeaderSets.j0 k l0 a1 a2 t420 true) = some r := by rw [if_neg (show ¬ (false = true) by decide)] at H; exact H
      clear H
      have H := H1
      clear H1
      have H' := Aside0.mk H
      clear H
      go_wp2_with (first | ((with_reducible refine gate_callee (f := 18) rfl ?_); refine goesL_ (some 20) rfl rfl Tryz.func18 (by kernel_rfl) rfl #[.slice A0 l0.length c0] rfl (by (try simp only [List.map_toArray, List.map_cons, List.map_nil]); first | done | rfl | (simp only [List.length_drop, List.length_take]; rfl)) ?_; (with_reducible refine (missivelaw09_few.calls k _ _ l0 false _ ?side1 ?side2 A7.out).mono ?_); (case side1 => repeat (first | exact (Kd.C_below HR0.out HB.out) | (with_reducible refine Kd.C_alloc ?_ _) | (with_reducible refine Kd.C_drewN ?_ _) | (with_reducible refine Kd.C_drew ?_))); (case side2 => exact HC0.out); rintro e w' ⟨rfl, ⟨nd, rfl⟩⟩; refine ⟨_, rfl, ?_⟩))
      go_meet
      case rel => exact ⟨_, (true), (by first | rfl | (simp; done) | (simp [*]; done)), H', ⟨by first | omega | exact Nat.le_refl _⟩, ⟨by repeat (first | (with_reducible first | exact HB.out | apply below_alloc | apply pw_below_drewN | apply below_drew1) | exact HB.out)⟩⟩
  case rest =>
    clear HC5
    try clear c1
    try clear p2
    try clear c8
    try clear c9
    try clear c9b0
    try clear c9b1
    obtain ⟨kq, x31_4, rfl, HA, HJ4, HB⟩ := hcut
    cases kq with
    | zero => exact absurd HA.out (by simp [missivelaw09_HeaderSets.j0])
    | succ kj4 =>
      have H := HA.out
      clear HA
      simp only [missivelaw09_HeaderSets.j0] at H
      by_cases c10 : x31_4 = true
      · subst c10
        have H1 : (some t420) = some r := by rw [if_pos rfl] at H; exact H
        clear H
        have H := H1
        clear H1
        obtain rfl := Option.some.inj H
        go_wp2
        go_ret
        exact ⟨by first | rfl | (simp [errW_none, errW_some]; done) | (simp [errW_none, errW_some]; exact isEmpty_nbne _) | (simp [errW_none, errW_some]; exact isEmpty_bne _) | (simp [errW_none, errW_some] <;> rfl) | (simp [*, errW_none, errW_some] <;> rfl), by repeat (first | (with_reducible first | exact HB.out | apply below_alloc | apply pw_below_drewN | apply below_drew1) | exact HB.out)⟩
      · replace c10 := Bool.eq_false_iff.mpr c10
        subst c10
        have H1 : ((header_Set.f kj4 l0 a1 a2).bind fun t422 => ((header_Drop.f kj4 l0 a1).bind fun t425 => ((header_Get.f kj4 t422 a1).bind fun bt428 => ((header_Get.f kj4 t425 a1).bind fun bt430 => ((header_All.f kj4 t422 a1).bind fun t432 => ((header_Get.f kj4 l0 a1).bind fun bt435 => ((header_All.f kj4 l0 a1).bind fun t437 => (if (bt435.2 != (decide ((t437.length : Int) > 0))) = true then (missivelaw09_HeaderSets.j1 kj4 l0 a1 a2 t420 t422 t425 bt428.1 bt428.2 bt430.2 t432 t437 true) else (if bt435.2 = true then (if 0 < (t437.length : Int) then (if (rdOf ByteArray.empty t437 0).toList = bt435.1.toList then (missivelaw09_HeaderSets.j1 kj4 l0 a1 a2 t420 t422 t425 bt428.1 bt428.2 bt430.2 t432 t437 false) else (missivelaw09_HeaderSets.j1 kj4 l0 a1 a2 t420 t422 t425 bt428.1 bt428.2 bt430.2 t432 t437 true)) else (none)) else (missivelaw09_HeaderSets.j1 kj4 l0 a1 a2 t420 t422 t425 bt428.1 bt428.2 bt430.2 t432 t437 (bt435.1.toList != ([] : List UInt8)))))))))))) = some r := by rw [if_neg (show ¬ (false = true) by decide)] at H; exact H
        clear H
        have H := H1
        clear H1
        replace H := Option.bind_eq_some_iff.mp H
        obtain ⟨t422, A110, H⟩ := H
        replace H : ((header_Drop.f kj4 l0 a1).bind fun t425 => ((header_Get.f kj4 t422 a1).bind fun bt428 => ((header_Get.f kj4 t425 a1).bind fun bt430 => ((header_All.f kj4 t422 a1).bind fun t432 => ((header_Get.f kj4 l0 a1).bind fun bt435 => ((header_All.f kj4 l0 a1).bind fun t437 => (if (bt435.2 != (decide ((t437.length : Int) > 0))) = true then (missivelaw09_HeaderSets.j1 kj4 l0 a1 a2 t420 t422 t425 bt428.1 bt428.2 bt430.2 t432 t437 true) else (if bt435.2 = true then (if 0 < (t437.length : Int) then (if (rdOf ByteArray.empty t437 0).toList = bt435.1.toList then (missivelaw09_HeaderSets.j1 kj4 l0 a1 a2 t420 t422 t425 bt428.1 bt428.2 bt430.2 t432 t437 false) else (missivelaw09_HeaderSets.j1 kj4 l0 a1 a2 t420 t422 t425 bt428.1 bt428.2 bt430.2 t432 t437 true)) else (none)) else (missivelaw09_HeaderSets.j1 kj4 l0 a1 a2 t420 t422 t425 bt428.1 bt428.2 bt430.2 t432 t437 (bt435.1.toList != ([] : List UInt8))))))))))) = some r := H
        have A11 := Aside0.mk A110
        clear A110
        replace H := Option.bind_eq_some_iff.mp H
        obtain ⟨t425, A120, H⟩ := H
        replace H : ((header_Get.f kj4 t422 a1).bind fun bt428 => ((header_Get.f kj4 t425 a1).bind fun bt430 => ((header_All.f kj4 t422 a1).bind fun t432 => ((header_Get.f kj4 l0 a1).bind fun bt435 => ((header_All.f kj4 l0 a1).bind fun t437 => (if (bt435.2 != (decide ((t437.length : Int) > 0))) = true then (missivelaw09_HeaderSets.j1 kj4 l0 a1 a2 t420 t422 t425 bt428.1 bt428.2 bt430.2 t432 t437 true) else (if bt435.2 = true then (if 0 < (t437.length : Int) then (if (rdOf ByteArray.empty t437 0).toList = bt435.1.toList then (missivelaw09_HeaderSets.j1 kj4 l0 a1 a2 t420 t422 t425 bt428.1 bt428.2 bt430.2 t432 t437 false) else (missivelaw09_HeaderSets.j1 kj4 l0 a1 a2 t420 t422 t425 bt428.1 bt428.2 bt430.2 t432 t437 true)) else (none)) else (missivelaw09_HeaderSets.j1 kj4 l0 a1 a2 t420 t422 t425 bt428.1 bt428.2 bt430.2 t432 t437 (bt435.1.toList != ([] : List UInt8)))))))))) = some r := H
        have A12 := Aside0.mk A120
        clear A120
        replace H := Option.bind_eq_some_iff.mp H
        obtain ⟨⟨t428, t429⟩, A130, H⟩ := H
        replace H : ((header_Get.f kj4 t425 a1).bind fun bt430 => ((header_All.f kj4 t422 a1).bind fun t432 => ((header_Get.f kj4 l0 a1).bind fun bt435 => ((header_All.f kj4 l0 a1).bind fun t437 => (if (bt435.2 != (decide ((t437.length : Int) > 0))) = true then (missivelaw09_HeaderSets.j1 kj4 l0 a1 a2 t420 t422 t425 t428 t429 bt430.2 t432 t437 true) else (if bt435.2 = true then (if 0 < (t437.length : Int) then (if (rdOf ByteArray.empty t437 0).toList = bt435.1.toList then (missivelaw09_HeaderSets.j1 kj4 l0 a1 a2 t420 t422 t425 t428 t429 bt430.2 t432 t437 false) else (missivelaw09_HeaderSets.j1 kj4 l0 a1 a2 t420 t422 t425 t428 t429 bt430.2 t432 t437 true)) else (none)) else (missivelaw09_HeaderSets.j1 kj4 l0 a1 a2 t420 t422 t425 t428 t429 bt430.2 t432 t437 (bt435.1.toList != ([] : List UInt8))))))))) = some r := H
        have A13 := Aside0.mk A130
        clear A130
        replace H := Option.bind_eq_some_iff.mp H
        obtain ⟨⟨t430, t431⟩, A140, H⟩ := H
        replace H : ((header_All.f kj4 t422 a1).bind fun t432 => ((header_Get.f kj4 l0 a1).bind fun bt435 => ((header_All.f kj4 l0 a1).bind fun t437 => (if (bt435.2 != (decide ((t437.length : Int) > 0))) = true then (missivelaw09_HeaderSets.j1 kj4 l0 a1 a2 t420 t422 t425 t428 t429 t431 t432 t437 true) else (if bt435.2 = true then (if 0 < (t437.length : Int) then (if (rdOf ByteArray.empty t437 0).toList = bt435.1.toList then (missivelaw09_HeaderSets.j1 kj4 l0 a1 a2 t420 t422 t425 t428 t429 t431 t432 t437 false) else (missivelaw09_HeaderSets.j1 kj4 l0 a1 a2 t420 t422 t425 t428 t429 t431 t432 t437 true)) else (none)) else (missivelaw09_HeaderSets.j1 kj4 l0 a1 a2 t420 t422 t425 t428 t429 t431 t432 t437 (bt435.1.toList != ([] : List UInt8)))))))) = some r := H
        have A14 := Aside0.mk A140
        clear A140
        replace H := Option.bind_eq_some_iff.mp H
        obtain ⟨t432, A150, H⟩ := H
        replace H : ((header_Get.f kj4 l0 a1).bind fun bt435 => ((header_All.f kj4 l0 a1).bind fun t437 => (if (bt435.2 != (decide ((t437.length : Int) > 0))) = true then (missivelaw09_HeaderSets.j1 kj4 l0 a1 a2 t420 t422 t425 t428 t429 t431 t432 t437 true) else (if bt435.2 = true then (if 0 < (t437.length : Int) then (if (rdOf ByteArray.empty t437 0).toList = bt435.1.toList then (missivelaw09_HeaderSets.j1 kj4 l0 a1 a2 t420 t422 t425 t428 t429 t431 t432 t437 false) else (missivelaw09_HeaderSets.j1 kj4 l0 a1 a2 t420 t422 t425 t428 t429 t431 t432 t437 true)) else (none)) else (missivelaw09_HeaderSets.j1 kj4 l0 a1 a2 t420 t422 t425 t428 t429 t431 t432 t437 (bt435.1.toList != ([] : List UInt8))))))) = some r := H
        have A15 := Aside0.mk A150
        clear A150
        replace H := Option.bind_eq_some_iff.mp H
        obtain ⟨⟨t435, t436⟩, A160, H⟩ := H
        replace H : ((header_All.f kj4 l0 a1).bind fun t437 => (if (t436 != (decide ((t437.length : Int) > 0))) = true then (missivelaw09_HeaderSets.j1 kj4 l0 a1 a2 t420 t422 t425 t428 t429 t431 t432 t437 true) else (if t436 = true then (if 0 < (t437.length : Int) then (if (rdOf ByteArray.empty t437 0).toList = t435.toList then (missivelaw09_HeaderSets.j1 kj4 l0 a1 a2 t420 t422 t425 t428 t429 t431 t432 t437 false) else (missivelaw09_HeaderSets.j1 kj4 l0 a1 a2 t420 t422 t425 t428 t429 t431 t432 t437 true)) else (none)) else (missivelaw09_HeaderSets.j1 kj4 l0 a1 a2 t420 t422 t425 t428 t429 t431 t432 t437 (t435.toList != ([] : List UInt8)))))) = some r := H
        have A16 := Aside0.mk A160
        clear A160
        replace H := Option.bind_eq_some_iff.mp H
        obtain ⟨t437, A170, H⟩ := H
        replace H : (if (t436 != (decide ((t437.length : Int) > 0))) = true then (missivelaw09_HeaderSets.j1 kj4 l0 a1 a2 t420 t422 t425 t428 t429 t431 t432 t437 true) else (if t436 = true then (if 0 < (t437.length : Int) then (if (rdOf ByteArray.empty t437 0).toList = t435.toList then (missivelaw09_HeaderSets.j1 kj4 l0 a1 a2 t420 t422 t425 t428 t429 t431 t432 t437 false) else (missivelaw09_HeaderSets.j1 kj4 l0 a1 a2 t420 t422 t425 t428 t429 t431 t432 t437 true)) else (none)) else (missivelaw09_HeaderSets.j1 kj4 l0 a1 a2 t420 t422 t425 t428 t429 t431 t432 t437 (t435.toList != ([] : List UInt8))))) = some r := H
        have A17 := Aside0.mk A170
        clear A170
        have HC18 := Aside0.mk H
        clear H
        go_upto_region 11 with (first | ((with_reducible refine gate_callee (f := 35) rfl ?_); refine goesL_ (some 36) rfl rfl Tryz.func35 (by kernel_rfl) rfl #[.slice A0 l0.length c0, .string a1, .string a2] rfl (by (try simp only [List.map_toArray, List.map_cons, List.map_nil]); first | done | rfl | (simp only [List.length_drop, List.length_take]; rfl)) ?_; (with_reducible refine (header_Set.calls kj4 _ _ l0 a1 a2 t422 _ ?side1 ?side2 A11.out).mono ?_); (case side1 => repeat (first | exact (Kd.C_below HR0.out HB.out) | (with_reducible refine Kd.C_alloc ?_ _) | (with_reducible refine Kd.C_drewN ?_ _) | (with_reducible refine Kd.C_drew ?_))); (case side2 => exact HC0.out); rintro e w19 ⟨v423, rfl, ho0, hb⟩; refine ⟨_, rfl, ?_⟩; have n0_ := Aside0.mk (Kd.R_lower ho0 (below_size (by repeat (first | (with_reducible first | exact HB.out | apply below_alloc | apply pw_below_drewN | apply below_drew1) | exact HB.out)))); have n1_ := Aside0.mk (below_step (by repeat (first | (with_reducible first | exact HB.out | apply below_alloc | apply pw_below_drewN | apply below_drew1) | exact HB.out)) hb); clear HB; have HO424 := n0_; have HB := n1_; clear n0_ n1_; (try clear hb); (try clear hb2); (try clear hk); (try clear hi); (try clear ho0)) | ((with_reducible refine gate_callee (f := 37) rfl ?_); refine goesL_ (some 39) rfl rfl Tryz.func37 (by kernel_rfl) rfl #[.slice A0 l0.length c0, .string a1] rfl (by (try simp only [List.map_toArray, List.map_cons, List.map_nil]); first | done | rfl | (simp only [List.length_drop, List.length_take]; rfl)) ?_; (with_reducible refine (header_Drop.calls kj4 _ _ l0 a1 t425 _ ?side1 ?side2 A12.out).mono ?_); (case side1 => repeat (first | exact (Kd.C_below HR0.out HB.out) | (with_reducible refine Kd.C_alloc ?_ _) | (with_reducible refine Kd.C_drewN ?_ _) | (with_reducible refine Kd.C_drew ?_))); (case side2 => exact HC0.out); rintro e w20 ⟨v426, rfl, ho0, hb⟩; refine ⟨_, rfl, ?_⟩; have n0_ := Aside0.mk (Kd.R_elder' (by (with_reducible repeat (first | apply Kd.R_alloc | apply Kd.R_drewN | apply Kd.R_drew)); exact HO424.out) (Kd.R_base ho0) hb); have n1_ := Aside0.mk (Kd.R_lower (Kd.R_new' ho0 (Kd.R_lt (by (with_reducible repeat (first | apply Kd.R_alloc | apply Kd.R_drewN | apply Kd.R_drew)); exact HO424.out))) (below_size (by repeat (first | (with_reducible first | exact HB.out | apply below_alloc | apply pw_below_drewN | apply below_drew1) | exact HB.out)))); have n2_ := Aside0.mk (below_step (by repeat (first | (with_reducible first | exact HB.out | apply below_alloc | apply pw_below_drewN | apply below_drew1) | exact HB.out)) hb); clear HO424; clear HB; have HO424 := n0_; have HO427 := n1_; have HB := n2_; clear n0_ n1_ n2_; (try clear hb); (try clear hb2); (try clear hk); (try clear hi); (try clear ho0); obtain ⟨Ao21, co21, eo21⟩ := Kd.R_slice HO424.out; subst eo21) | ((with_reducible refine gate_callee (f := 30) rfl ?_); refine goesL_ (some 43) rfl rfl Tryz.func30 (by kernel_rfl) rfl #[.slice Ao21 t422.length co21, .string a1] rfl (by (try simp only [List.map_toArray, List.map_cons, List.map_nil]); first | done | rfl | (simp only [List.length_drop, List.length_take]; rfl)) ?_; (with_reducible refine (header_Get.calls kj4 _ _ t422 a1 t428 t429 _ ?side1 ?side2 A13.out).mono ?_); (case side1 => repeat (first | exact (Kd.R_reads' HO424.out).2.2 | (with_reducible refine Kd.C_alloc ?_ _) | (with_reducible refine Kd.C_drewN ?_ _) | (with_reducible refine Kd.C_drew ?_))); (case side2 => exact (Kd.R_reads' HO424.out).2.1); rintro e w22 ⟨rfl, hb⟩; refine ⟨_, rfl, ?_⟩; have n0_ := Aside0.mk (Kd.R_below (by (with_reducible repeat (first | apply Kd.R_alloc | apply Kd.R_drewN | apply Kd.R_drew)); exact HO424.out) hb); have n1_ := Aside0.mk (Kd.R_below (by (with_reducible repeat (first | apply Kd.R_alloc | apply Kd.R_drewN | apply Kd.R_drew)); exact HO427.out) hb); have n2_ := Aside0.mk (below_step (by repeat (first | (with_reducible first | exact HB.out | apply below_alloc | apply pw_below_drewN | apply below_drew1) | exact HB.out)) hb); clear HO424; clear HO427; clear HB; have HO424 := n0_; have HO427 := n1_; have HB := n2_; clear n0_ n1_ n2_; (try clear hb); (try clear hb2); (try clear hk); (try clear hi); obtain ⟨Ao23, co23, eo23⟩ := Kd.R_slice HO427.out; subst eo23) | ((with_reducible refine gate_callee (f := 30) rfl ?_); refine goesL_ (some 49) rfl rfl Tryz.func30 (by kernel_rfl) rfl #[.slice Ao23 t425.length co23, .string a1] rfl (by (try simp only [List.map_toArray, List.map_cons, List.map_nil]); first | done | rfl | (simp only [List.length_drop, List.length_take]; rfl)) ?_; (with_reducible refine (header_Get.calls kj4 _ _ t425 a1 t430 t431 _ ?side1 ?side2 A14.out).mono ?_); (case side1 => repeat (first | exact (Kd.R_reads' HO427.out).2.2 | (with_reducible refine Kd.C_alloc ?_ _) | (with_reducible refine Kd.C_drewN ?_ _) | (with_reducible refine Kd.C_drew ?_))); (case side2 => exact (Kd.R_reads' HO427.out).2.1); rintro e w24 ⟨rfl, hb⟩; refine ⟨_, rfl, ?_⟩; have n0_ := Aside0.mk (Kd.R_below (by (with_reducible repeat (first | apply Kd.R_alloc | apply Kd.R_drewN | apply Kd.R_drew)); exact HO424.out) hb); have n1_ := Aside0.mk (Kd.R_below (by (with_reducible repeat (first | apply Kd.R_alloc | apply Kd.R_drewN | apply Kd.R_drew)); exact HO427.out) hb); have n2_ := Aside0.mk (below_step (by repeat (first | (with_reducible first | exact HB.out | apply below_alloc | apply pw_below_drewN | apply below_drew1) | exact HB.out)) hb); clear HO424; clear HO427; clear HB; have HO424 := n0_; have HO427 := n1_; have HB := n2_; clear n0_ n1_ n2_; (try clear hb); (try clear hb2); (try clear hk); (try clear hi)) | ((with_reducible refine gate_callee (f := 33) rfl ?_); refine goesL_ (some 54) rfl rfl Tryz.func33 (by kernel_rfl) rfl #[.slice Ao21 t422.length co21, .string a1] rfl (by (try simp only [List.map_toArray, List.map_cons, List.map_nil]); first | done | rfl | (simp only [List.length_drop, List.length_take]; rfl)) ?_; (with_reducible refine (header_All.calls kj4 _ _ t422 a1 t432 _ ?side1 ?side2 A15.out).mono ?_); (case side1 => repeat (first | exact (Kd.R_reads' HO424.out).2.2 | (with_reducible refine Kd.C_alloc ?_ _) | (with_reducible refine Kd.C_drewN ?_ _) | (with_reducible refine Kd.C_drew ?_))); (case side2 => exact (Kd.R_reads' HO424.out).2.1); rintro e w25 ⟨v433, rfl, ho0, hb⟩; refine ⟨_, rfl, ?_⟩; have n0_ := Aside0.mk (Kd.R_below (by (with_reducible repeat (first | apply Kd.R_alloc | apply Kd.R_drewN | apply Kd.R_drew)); exact HO424.out) hb); have n1_ := Aside0.mk (Kd.R_below (by (with_reducible repeat (first | apply Kd.R_alloc | apply Kd.R_drewN | apply Kd.R_drew)); exact HO427.out) hb); have n2_ := Aside0.mk (Kd.R_lower ho0 (below_size (by repeat (first | (with_reducible first | exact HB.out | apply below_alloc | apply pw_below_drewN | apply below_drew1) | exact HB.out)))); have n3_ := Aside0.mk (below_step (by repeat (first | (with_reducible first | exact HB.out | apply below_alloc | apply pw_below_drewN | apply below_drew1) | exact HB.out)) hb); clear HO424; clear HO427; clear HB; have HO424 := n0_; have HO427 := n1_; have HO434 := n2_; have HB := n3_; clear n0_ n1_ n2_ n3_; (try clear hb); (try clear hb2); (try clear hk); (try clear hi); (try clear ho0)) | ((with_reducible refine gate_callee (f := 30) rfl ?_); refine goesL_ (some 58) rfl rfl Tryz.func30 (by kernel_rfl) rfl #[.slice A0 l0.length c0, .string a1] rfl (by (try simp only [List.map_toArray, List.map_cons, List.map_nil]); first | done | rfl | (simp only [List.length_drop, List.length_take]; rfl)) ?_; (with_reducible refine (header_Get.calls kj4 _ _ l0 a1 t435 t436 _ ?side1 ?side2 A16.out).mono ?_); (case side1 => repeat (first | exact (Kd.C_below HR0.out HB.out) | (with_reducible refine Kd.C_alloc ?_ _) | (with_reducible refine Kd.C_drewN ?_ _) | (with_reducible refine Kd.C_drew ?_))); (case side2 => exact HC0.out); rintro e w26 ⟨rfl, hb⟩; refine ⟨_, rfl, ?_⟩; have n0_ := Aside0.mk (Kd.R_below (by (with_reducible repeat (first | apply Kd.R_alloc | apply Kd.R_drewN | apply Kd.R_drew)); exact HO424.out) hb); have n1_ := Aside0.mk (Kd.R_below (by (with_reducible repeat (first | apply Kd.R_alloc | apply Kd.R_drewN | apply Kd.R_drew)); exact HO427.out) hb); have n2_ := Aside0.mk (Kd.R_below (by (with_reducible repeat (first | apply Kd.R_alloc | apply Kd.R_drewN | apply Kd.R_drew)); exact HO434.out) hb); have n3_ := Aside0.mk (below_step (by repeat (first | (with_reducible first | exact HB.out | apply below_alloc | apply pw_below_drewN | apply below_drew1) | exact HB.out)) hb); clear HO424; clear HO427; clear HO434; clear HB; have HO424 := n0_; have HO427 := n1_; have HO434 := n2_; have HB := n3_; clear n0_ n1_ n2_ n3_; (try clear hb); (try clear hb2); (try clear hk); (try clear hi)) | ((with_reducible refine gate_callee (f := 33) rfl ?_); refine goesL_ (some 63) rfl rfl Tryz.func33 (by kernel_rfl) rfl #[.slice A0 l0.length c0, .string a1] rfl (by (try simp only [List.map_toArray, List.map_cons, List.map_nil]); first | done | rfl | (simp only [List.length_drop, List.length_take]; rfl)) ?_; (with_reducible refine (header_All.calls kj4 _ _ l0 a1 t437 _ ?side1 ?side2 A17.out).mono ?_); (case side1 => repeat (first | exact (Kd.C_below HR0.out HB.out) | (with_reducible refine Kd.C_alloc ?_ _) | (with_reducible refine Kd.C_drewN ?_ _) | (with_reducible refine Kd.C_drew ?_))); (case side2 => exact HC0.out); rintro e w27 ⟨v438, rfl, ho0, hb⟩; refine ⟨_, rfl, ?_⟩; have n0_ := Aside0.mk (Kd.R_below (by (with_reducible repeat (first | apply Kd.R_alloc | apply Kd.R_drewN | apply Kd.R_drew)); exact HO424.out) hb); have n1_ := Aside0.mk (Kd.R_below (by (with_reducible repeat (first | apply Kd.R_alloc | apply Kd.R_drewN | apply Kd.R_drew)); exact HO427.out) hb); have n2_ := Aside0.mk (Kd.R_elder' (by (with_reducible repeat (first | apply Kd.R_alloc | apply Kd.R_drewN | apply Kd.R_drew)); exact HO434.out) (Kd.R_base ho0) hb); have n3_ := Aside0.mk (Kd.R_lower (Kd.R_new' ho0 (Kd.R_lt (by (with_reducible repeat (first | apply Kd.R_alloc | apply Kd.R_drewN | apply Kd.R_drew)); exact HO434.out))) (below_size (by repeat (first | (with_reducible first | exact HB.out | apply below_alloc | apply pw_below_drewN | apply below_drew1) | exact HB.out)))); have n4_ := Aside0.mk (below_step (by repeat (first | (with_reducible first | exact HB.out | apply below_alloc | apply pw_below_drewN | apply below_drew1) | exact HB.out)) hb); clear HO424; clear HO427; clear HO434; clear HB; have HO424 := n0_; have HO427 := n1_; have HO434 := n2_; have HO439 := n3_; have HB := n4_; clear n0_ n1_ n2_ n3_ n4_; (try clear hb); (try clear hb2); (try clear hk); (try clear hi); (try clear ho0)))
        (try simp only [Act.put, List.setIfInBounds_toArray, List.set_cons_zero, List.set_cons_succ])
        go_cut [86] (fun v86 wc => ∃ (kq : Nat) (x86_17 : Bool), v86 = .bool x86_17 ∧ Aside0 (missivelaw09_HeaderSets.j1 kq l0 a1 a2 t420 t422 t425 t428 t429 t431 t432 t437 x86_17 = some r) ∧ Aside0 (kq ≤ kj4) ∧ Aside0 (Kd.R k35 35 wc w.heap.size (fun k_ => some k_ ≠ ((.slice Ao23 t425.length co23) : Value).ownBlock) (.slice Ao21 t422.length co21) t422) ∧ Aside0 (Kd.R k35 35 wc w.heap.size (fun k_ => some k_ ≠ ((.slice Ao21 t422.length co21) : Value).ownBlock) (.slice Ao23 t425.length co23) t425) ∧ Aside0 (Kd.R Kd.string 9 wc w.heap.size (fun k_ => some k_ ≠ (v438 : Value).ownBlock) v433 t432) ∧ Aside0 (Kd.R Kd.string 9 wc w.heap.size (fun k_ => some k_ ≠ (v433 : Value).ownBlock) v438 t437) ∧ Aside0 (Below w.heap.size w wc))
        case first =>
          have H := HC18.out
          clear HC18
          by_cases c28 : (t436 != (decide ((t437.length : Int) > 0))) = true
          · rw [if_pos c28] at H
            have c28b0 : (t436 != (decide ((t437.length : Int) > 0))) = true := c28
            (try (have c28b1 : decide (t436 = (decide ((t437.length : Int) > 0))) = false := by simpa using c28))
            (try (have c28b2 : (t436 == (decide ((t437.length : Int) > 0))) = false := by simpa using c28))
            (try (have c28b3 : ¬ (t436 = (decide ((t437.length : Int) > 0))) := by simpa using c28))
            clear c28
            (first | rw [c28b0] | (simp only [i64_w, i32_w]; rw [c28b0]) | skip)
            have H' := Aside0.mk H
            clear H
            have hpatch : (t436 = true ∧ t437 = []) ∨ (t436 = false ∧ 0 < t437.length) := by
              cases t437 with
              | nil => cases t436 with
                | true => exact .inl ⟨rfl, rfl⟩
                | false => exact absurd c28b0 (by decide)
              | cons x xs => cases t436 with
                | true => exact absurd c28b0 (by simp)
                | false => exact .inr ⟨rfl, by simp⟩
            try clear c28b0 c28b1 c28b2 c28b3
            try clear c28b0
            try clear c28b1
            try clear c28b2
            try clear c28b3
            obtain ⟨Ao29, co29, eo29⟩ := Kd.R_slice HO439.out
            subst eo29
            rcases hpatch with ⟨rfl, rfl⟩ | ⟨rfl, hz28⟩
            case' inr => have hz28a : decide (0 < (t437.length : Int)) = true := decide_eq_true (by omega); have hz28b : decide (0 < t437.length) = true := decide_eq_true hz28; clear hz28
            all_goals
              go_wp2
              go_meet
              case rel => exact ⟨_, (true), (by first | rfl | (simp; done) | (simp [*]; done)), H', ⟨by have := HJ4.out; first | omega | exact Nat.le_refl _⟩, ⟨by (with_reducible repeat (first | apply Kd.R_alloc | apply Kd.R_drewN | apply Kd.R_drew)); exact Kd.R_mono HO424.out (fun _ hk => hk.2)⟩, ⟨by (with_reducible repeat (first | apply Kd.R_alloc | apply Kd.R_drewN | apply Kd.R_drew)); exact Kd.R_mono HO427.out (fun _ hk => hk.2)⟩, ⟨by (with_reducible repeat (first | apply Kd.R_alloc | apply Kd.R_drewN | apply Kd.R_drew)); exact Kd.R_mono HO434.out (fun _ hk => hk.2)⟩, ⟨by (with_reducible repeat (first | apply Kd.R_alloc | apply Kd.R_drewN | apply Kd.R_drew)); exact Kd.R_mono HO439.out (fun _ hk => hk.2)⟩, ⟨by repeat (first | (with_reducible first | exact HB.out | apply below_alloc | apply pw_below_drewN | apply below_drew1) | exact HB.out)⟩⟩
          · rw [if_neg c28] at H
            have c28b0 : (t436 != (decide ((t437.length : Int) > 0))) = false := by simpa using c28
            (try (have c28b1 : decide (t436 = (decide ((t437.length : Int) > 0))) = true := by simpa using c28))
            (try (have c28b2 : (t436 == (decide ((t437.length : Int) > 0))) = true := by simpa using c28))
            clear c28
            (first | rw [c28b0] | (simp only [i64_w, i32_w]; rw [c28b0]) | skip)
            by_cases c30 : t436 = true
            · subst c30
              have H1 : (if 0 < (t437.length : Int) then (if (rdOf ByteArray.empty t437 0).toList = t435.toList then (missivelaw09_HeaderSets.j1 kj4 l0 a1 a2 t420 t422 t425 t428 t429 t431 t432 t437 false) else (missivelaw09_HeaderSets.j1 kj4 l0 a1 a2 t420 t422 t425 t428 t429 t431 t432 t437 true)) else (none)) = some r := by rw [if_pos rfl] at H; exact H
              clear H
              have H := H1
              clear H1
              by_cases c31 : 0 < (t437.length : Int)
              · rw [if_pos c31] at H
                have c31b0 : decide (0 < (t437.length : Int)) = true := decide_eq_true c31
                have c31b1 : decide (0 < t437.length) = true := decide_eq_true (by omega)
                clear c31
                by_cases c32 : (rdOf ByteArray.empty t437 0).toList = t435.toList
                · rw [if_pos c32] at H
                  have c32b0 : ((rdOf ByteArray.empty t437 0).toList == t435.toList) = true := beq_iff_eq.mpr c32
                  have c32b1 : ((rdOf ByteArray.empty t437 0).toList != t435.toList) = false := bne_eq_false_iff_eq.mpr c32
                  clear c32
                  have H' := Aside0.mk H
                  clear H
                  obtain ⟨Ao33, co33, eo33⟩ := Kd.R_slice HO439.out
                  subst eo33
                  have p440 : 0 ≤ (0 : Int) := (by omega)
                  have q440 : 0 < (t437.length : Int) := of_decide_eq_true (by first | (with_reducible assumption) | assumption)
                  obtain ⟨ad440, e440, hx440_0⟩ := Kd.at_string (Kd.R_reads' HO439.out).2.2 0 p440 q440
                  cases e440
                  have qi440 : (0 < t437.length) = True := eq_true (by omega)
                  (try rw [show ((0 : Int)).toNat = 0 from rfl] at hx440_0)
                  (try rw [Addr.add_zero'] at hx440_0)
                  replace p440 := eq_true p440
                  replace q440 := eq_true q440
                  go_wp2
                  go_meet
                  case rel => exact ⟨_, (false), (by first | rfl | (simp; done) | (simp [*]; done)), H', ⟨by have := HJ4.out; first | omega | exact Nat.le_refl _⟩, ⟨by (with_reducible repeat (first | apply Kd.R_alloc | apply Kd.R_drewN | apply Kd.R_drew)); exact Kd.R_mono HO424.out (fun _ hk => hk.2)⟩, ⟨by (with_reducible repeat (first | apply Kd.R_alloc | apply Kd.R_drewN | apply Kd.R_drew)); exact Kd.R_mono HO427.out (fun _ hk => hk.2)⟩, ⟨by (with_reducible repeat (first | apply Kd.R_alloc | apply Kd.R_drewN | apply Kd.R_drew)); exact Kd.R_mono HO434.out (fun _ hk => hk.2)⟩, ⟨by (with_reducible repeat (first | apply Kd.R_alloc | apply Kd.R_drewN | apply Kd.R_drew)); exact Kd.R_mono HO439.out (fun _ hk => hk.2)⟩, ⟨by repeat (first | (with_reducible first | exact HB.out | apply below_alloc | apply pw_below_drewN | apply below_drew1) | exact HB.out)⟩⟩
                · rw [if_neg c32] at H
                  have c32b0 : ((rdOf ByteArray.empty t437 0).toList == t435.toList) = false := beq_eq_false_iff_ne.mpr c32
                  have c32b1 : ((rdOf ByteArray.empty t437 0).toList != t435.toList) = true := bne_iff_ne.mpr c32
                  have H' := Aside0.mk H
                  clear H
                  obtain ⟨Ao34, co34, eo34⟩ := Kd.R_slice HO439.out
                  subst eo34
                  have p440 : 0 ≤ (0 : Int) := (by omega)
                  have q440 : 0 < (t437.length : Int) := of_decide_eq_true (by first | (with_reducible assumption) | assumption)
                  obtain ⟨ad440, e440, hx440_0⟩ := Kd.at_string (Kd.R_reads' HO439.out).2.2 0 p440 q440
                  cases e440
                  have qi440 : (0 < t437.length) = True := eq_true (by omega)
                  (try rw [show ((0 : Int)).toNat = 0 from rfl] at hx440_0)
                  (try rw [Addr.add_zero'] at hx440_0)
                  replace p440 := eq_true p440
                  replace q440 := eq_true q440
                  go_wp2
                  go_meet
                  case rel => exact ⟨_, (true), (by first | rfl | (simp; done) | (simp [*]; done)), H', ⟨by have := HJ4.out; first | omega | exact Nat.le_refl _⟩, ⟨by (with_reducible repeat (first | apply Kd.R_alloc | apply Kd.R_drewN | apply Kd.R_drew)); exact Kd.R_mono HO424.out (fun _ hk => hk.2)⟩, ⟨by (with_reducible repeat (first | apply Kd.R_alloc | apply Kd.R_drewN | apply Kd.R_drew)); exact Kd.R_mono HO427.out (fun _ hk => hk.2)⟩, ⟨by (with_reducible repeat (first | apply Kd.R_alloc | apply Kd.R_drewN | apply Kd.R_drew)); exact Kd.R_mono HO434.out (fun _ hk => hk.2)⟩, ⟨by (with_reducible repeat (first | apply Kd.R_alloc | apply Kd.R_drewN | apply Kd.R_drew)); exact Kd.R_mono HO439.out (fun _ hk => hk.2)⟩, ⟨by repeat (first | (with_reducible first | exact HB.out | apply below_alloc | apply pw_below_drewN | apply below_drew1) | exact HB.out)⟩⟩
              · rw [if_neg c31] at H
                exact absurd H (by simp)
            · replace c30 := Bool.eq_false_iff.mpr c30
              subst c30
              have H1 : (missivelaw09_HeaderSets.j1 kj4 l0 a1 a2 t420 t422 t425 t428 t429 t431 t432 t437 (t435.toList != ([] : List UInt8))) = some r := by rw [if_neg (show ¬ (false = true) by decide)] at H; exact H
              clear H
              have H := H1
              clear H1
              have H' := Aside0.mk H
              clear H
              have hpatch2 : t437 = [] := by
                cases t437 with
                | nil => rfl
                | cons x xs => exact absurd c28b0 (by simp)
              try clear c28b0
              try clear c28b1
              try clear c28b2
              try clear c28b3
              subst hpatch2
              obtain ⟨Ao35, co35, eo35⟩ := Kd.R_slice HO439.out
              subst eo35
              go_wp2
              go_meet
              case rel => exact ⟨_, ((t435.toList != ([] : List UInt8))), (by first | rfl | (simp; done) | (simp; exact isEmpty_bne _) | (simp; exact isEmpty_nbne _) | (simp [*]; done)), H', ⟨by have := HJ4.out; first | omega | exact Nat.le_refl _⟩, ⟨by (with_reducible repeat (first | apply Kd.R_alloc | apply Kd.R_drewN | apply Kd.R_drew)); exact Kd.R_mono HO424.out (fun _ hk => hk.2)⟩, ⟨by (with_reducible repeat (first | apply Kd.R_alloc | apply Kd.R_drewN | apply Kd.R_drew)); exact Kd.R_mono HO427.out (fun _ hk => hk.2)⟩, ⟨by (with_reducible repeat (first | apply Kd.R_alloc | apply Kd.R_drewN | apply Kd.R_drew)); exact Kd.R_mono HO434.out (fun _ hk => hk.2)⟩, ⟨by (with_reducible repeat (first | apply Kd.R_alloc | apply Kd.R_drewN | apply Kd.R_drew)); exact Kd.R_mono HO439.out (fun _ hk => hk.2)⟩, ⟨by repeat (first | (with_reducible first | exact HB.out | apply below_alloc | apply pw_below_drewN | apply below_drew1) | exact HB.out)⟩⟩
        case rest =>
          clear HC18
          try clear c1
          try clear c2
          try clear p2
          try clear c3
          try clear p4
          try clear q4
          try clear hx4
          try clear qi4
          try clear c8
          try clear c9
          try clear c9b0
          try clear c9b1
          try clear c10
          try clear c18
          try clear c28
          try clear c28b0
          try clear c28b1
          try clear c28b2
          try clear c30
          try clear c31
          try clear c31b0
          try clear c31b1
          try clear c32
          try clear c32b0
          try clear c32b1
          try clear c33
          try clear c35
          try clear hx440_0
          try clear p2
          try clear p440
          try clear q440
          obtain ⟨kq, x86_17, rfl, HA, HJ17, HO_8, HO_9, HO_14, HO_17, HB⟩ := hcut
          cases kq with
          | zero => exact absurd HA.out (by simp [missivelaw09_HeaderSets.j1])
          | succ kj17 =>
            have H := HA.out
            clear HA
            simp only [missivelaw09_HeaderSets.j1] at H
            by_cases c36 : x86_17 = true
            · subst c36
              have H1 : (some false) = some r := by rw [if_pos rfl] at H; exact H
              clear H
              have H := H1
              clear H1
              obtain rfl := Option.some.inj H
              go_wp2
              go_ret
              exact ⟨by first | rfl | (simp [errW_none, errW_some]; done) | (simp [errW_none, errW_some]; exact isEmpty_nbne _) | (simp [errW_none, errW_some]; exact isEmpty_bne _) | (simp [errW_none, errW_some] <;> rfl) | (simp [*, errW_none, errW_some] <;> rfl), by repeat (first | (with_reducible first | exact HB.out | apply below_alloc | apply pw_below_drewN | apply below_drew1) | exact HB.out)⟩
            · replace c36 := Bool.eq_false_iff.mpr c36
              subst c36
              have H1 : (if t420 = true then (if t429 = true then (if t428.toList = a2.toList then (if t431 = true then (some false) else (if (t432.length : Int) = 1 then ((header_Drop.f kj17 t422 a1).bind fun t441 => ((missiveref09_Same.f kj17 t441 t425).bind fun t444 => (if t444 = true then ((header_Set.f kj17 t422 a1 a2).bind fun t445 => ((missiveref09_Same.f kj17 t445 t422).bind fun t448 => (if t448 = true then (some ((wrap64 ((t425.length : Int) + (t437.length : Int))) == (l0.length : Int))) else (some false)))) else (some false)))) else (some false))) else (some false)) else (some false)) else (some false)) = some r := by rw [if_neg (show ¬ (false = true) by decide)] at H; exact H
              clear H
              have H := H1
              clear H1
              by_cases c37 : t420 = true
              · subst c37
                have H1 : (if t429 = true then (if t428.toList = a2.toList then (if t431 = true then (some false) else (if (t432.length : Int) = 1 then ((header_Drop.f kj17 t422 a1).bind fun t441 => ((missiveref09_Same.f kj17 t441 t425).bind fun t444 => (if t444 = true then ((header_Set.f kj17 t422 a1 a2).bind fun t445 => ((missiveref09_Same.f kj17 t445 t422).bind fun t448 => (if t448 = true then (some ((wrap64 ((t425.length : Int) + (t437.length : Int))) == (l0.length : Int))) else (some false)))) else (some false)))) else (some false))) else (some false)) else (some false)) = some r := by rw [if_pos rfl] at H; exact H
                clear H
                have H := H1
                clear H1
                by_cases c38 : t429 = true
                · subst c38
                  have H1 : (if t428.toList = a2.toList then (if t431 = true then (some false) else (if (t432.length : Int) = 1 then ((header_Drop.f kj17 t422 a1).bind fun t441 => ((missiveref09_Same.f kj17 t441 t425).bind fun t444 => (if t444 = true then ((header_Set.f kj17 t422 a1 a2).bind fun t445 => ((missiveref09_Same.f kj17 t445 t422).bind fun t448 => (if t448 = true then (some ((wrap64 ((t425.length : Int) + (t437.length : Int))) == (l0.length : Int))) else (some false)))) else (some false)))) else (some false))) else (some false)) = some r := by rw [if_pos rfl] at H; exact H
                  clear H
                  have H := H1
                  clear H1
                  by_cases c39 : t428.toList = a2.toList
                  · rw [if_pos c39] at H
                    have c39b0 : (t428.toList == a2.toList) = true := beq_iff_eq.mpr c39
                    have c39b1 : (t428.toList != a2.toList) = false := bne_eq_false_iff_eq.mpr c39
                    clear c39
                    by_cases c40 : t431 = true
                    · subst c40
                      have H1 : (some false) = some r := by rw [if_pos rfl] at H; exact H
                      clear H
                      have H := H1
                      clear H1
                      obtain rfl := Option.some.inj H
                      go_wp2
                      go_ret
                      exact ⟨by first | rfl | (simp [errW_none, errW_some]; done) | (simp [errW_none, errW_some]; exact isEmpty_nbne _) | (simp [errW_none, errW_some]; exact isEmpty_bne _) | (simp [errW_none, errW_some] <;> rfl) | (simp [*, errW_none, errW_some] <;> rfl), by repeat (first | (with_reducible first | exact HB.out | apply below_alloc | apply pw_below_drewN | apply below_drew1) | exact HB.out)⟩
                    · replace c40 := Bool.eq_false_iff.mpr c40
                      subst c40
                      have H1 : (if (t432.length : Int) = 1 then ((header_Drop.f kj17 t422 a1).bind fun t441 => ((missiveref09_Same.f kj17 t441 t425).bind fun t444 => (if t444 = true then ((header_Set.f kj17 t422 a1 a2).bind fun t445 => ((missiveref09_Same.f kj17 t445 t422).bind fun t448 => (if t448 = true then (some ((wrap64 ((t425.length : Int) + (t437.length : Int))) == (l0.length : Int))) else (some false)))) else (some false)))) else (some false)) = some r := by rw [if_neg (show ¬ (false = true) by decide)] at H; exact H
                      clear H
                      have H := H1
                      clear H1
                      by_cases c41 : (t432.length : Int) = 1
                      · rw [if_pos c41] at H
                        have c41b0 : ((t432.length : Int) == 1) = true := beq_iff_eq.mpr c41
                        have c41b1 : ((t432.length : Int) != 1) = false := bne_eq_false_iff_eq.mpr c41
                        clear c41
                        replace H := Option.bind_eq_some_iff.mp H
                        obtain ⟨t441, A420, H⟩ := H
                        replace H : ((missiveref09_Same.f kj17 t441 t425).bind fun t444 => (if t444 = true then ((header_Set.f kj17 t422 a1 a2).bind fun t445 => ((missiveref09_Same.f kj17 t445 t422).bind fun t448 => (if t448 = true then (some ((wrap64 ((t425.length : Int) + (t437.length : Int))) == (l0.length : Int))) else (some false)))) else (some false))) = some r := H
                        have A42 := Aside0.mk A420
                        clear A420
                        replace H := Option.bind_eq_some_iff.mp H
                        obtain ⟨t444, A430, H⟩ := H
                        replace H : (if t444 = true then ((header_Set.f kj17 t422 a1 a2).bind fun t445 => ((missiveref09_Same.f kj17 t445 t422).bind fun t448 => (if t448 = true then (some ((wrap64 ((t425.length : Int) + (t437.length : Int))) == (l0.length : Int))) else (some false)))) else (some false)) = some r := H
                        have A43 := Aside0.mk A430
                        clear A430
                        by_cases c44 : t444 = true
                        · subst c44
                          have H1 : ((header_Set.f kj17 t422 a1 a2).bind fun t445 => ((missiveref09_Same.f kj17 t445 t422).bind fun t448 => (if t448 = true then (some ((wrap64 ((t425.length : Int) + (t437.length : Int))) == (l0.length : Int))) else (some false)))) = some r := by rw [if_pos rfl] at H; exact H
                          clear H
                          have H := H1
                          clear H1
                          replace H := Option.bind_eq_some_iff.mp H
                          obtain ⟨t445, A450, H⟩ := H
                          replace H : ((missiveref09_Same.f kj17 t445 t422).bind fun t448 => (if t448 = true then (some ((wrap64 ((t425.length : Int) + (t437.length : Int))) == (l0.length : Int))) else (some false))) = some r := H
                          have A45 := Aside0.mk A450
                          clear A450
                          replace H := Option.bind_eq_some_iff.mp H
                          obtain ⟨t448, A460, H⟩ := H
                          replace H : (if t448 = true then (some ((wrap64 ((t425.length : Int) + (t437.length : Int))) == (l0.length : Int))) else (some false)) = some r := H
                          have A46 := Aside0.mk A460
                          clear A460
                          by_cases c47 : t448 = true
                          · subst c47
                            have H1 : (some ((wrap64 ((t425.length : Int) + (t437.length : Int))) == (l0.length : Int))) = some r := by rw [if_pos rfl] at H; exact H
                            clear H
                            have H := H1
                            clear H1
                            obtain rfl := Option.some.inj H
                            obtain ⟨Ao48, co48, eo48⟩ := Kd.R_slice HO_14.out
                            subst eo48
                            go_wp2_with (first | (go_at_call 37; (with_reducible refine (header_Drop.calls kj17 _ _ t422 a1 t441 _ ?side1 ?side2 A42.out).mono ?_); (case side1 => repeat (first | exact (Kd.R_reads' HO_8.out).2.2 | (with_reducible refine Kd.C_alloc ?_ _) | (with_reducible refine Kd.C_drewN ?_ _) | (with_reducible refine Kd.C_drew ?_))); (case side2 => exact (Kd.R_reads' HO_8.out).2.1); rintro e w49 ⟨v442, rfl, ho0, hb⟩; have n0_ := Aside0.mk (Kd.R_elder' (by (with_reducible repeat (first | apply Kd.R_alloc | apply Kd.R_drewN | apply Kd.R_drew)); exact HO_8.out) (Kd.R_base ho0) hb); have n1_ := Aside0.mk (Kd.R_elder' (by (with_reducible repeat (first | apply Kd.R_alloc | apply Kd.R_drewN | apply Kd.R_drew)); exact HO_9.out) (Kd.R_base ho0) hb); have n2_ := Aside0.mk (Kd.R_below (by (with_reducible repeat (first | apply Kd.R_alloc | apply Kd.R_drewN | apply Kd.R_drew)); exact HO_14.out) hb); have n3_ := Aside0.mk (Kd.R_below (by (with_reducible repeat (first | apply Kd.R_alloc | apply Kd.R_drewN | apply Kd.R_drew)); exact HO_17.out) hb); have n4_ := Aside0.mk (Kd.R_lower (Kd.R_new' (Kd.R_new' ho0 (Kd.R_lt (by (with_reducible repeat (first | apply Kd.R_alloc | apply Kd.R_drewN | apply Kd.R_drew)); exact HO_8.out))) (Kd.R_lt (by (with_reducible repeat (first | apply Kd.R_alloc | apply Kd.R_drewN | apply Kd.R_drew)); exact HO_9.out))) (below_size (by repeat (first | (with_reducible first | exact HB.out | apply below_alloc | apply pw_below_drewN | apply below_drew1) | exact HB.out)))); have n5_ := Aside0.mk (below_step (by repeat (first | (with_reducible first | exact HB.out | apply below_alloc | apply pw_below_drewN | apply below_drew1) | exact HB.out)) hb); clear HO_8; clear HO_9; clear HO_14; clear HO_17; clear HB; have HO_8 := n0_; have HO_9 := n1_; have HO_14 := n2_; have HO_17 := n3_; have HO443 := n4_; have HB := n5_; clear n0_ n1_ n2_ n3_ n4_ n5_; (try clear hb); (try clear hb2); (try clear hk); (try clear hi); (try clear ho0); obtain ⟨Ao50, co50, eo50⟩ := Kd.R_slice HO443.out; subst eo50) | (go_at_call 23; (with_reducible refine (missiveref09_Same.calls kj17 _ _ t441 _ _ t425 true _ ?side1 ?side2 ?side3 ?side4 A43.out).mono ?_); (case side1 => repeat (first | exact (Kd.R_reads' HO443.out).2.2 | (with_reducible refine Kd.C_alloc ?_ _) | (with_reducible refine Kd.C_drewN ?_ _) | (with_reducible refine Kd.C_drew ?_))); (case side2 => exact (Kd.R_reads' HO443.out).2.1); (case side3 => repeat (first | exact (Kd.R_reads' HO_9.out).2.2 | (with_reducible refine Kd.C_alloc ?_ _) | (with_reducible refine Kd.C_drewN ?_ _) | (with_reducible refine Kd.C_drew ?_))); (case side4 => exact (Kd.R_reads' HO_9.out).2.1); rintro e w' ⟨rfl, ⟨nd, rfl⟩⟩) | (go_at_call 35; (with_reducible refine (header_Set.calls kj17 _ _ t422 a1 a2 t445 _ ?side1 ?side2 A45.out).mono ?_); (case side1 => repeat (first | exact (Kd.R_reads' HO_8.out).2.2 | (with_reducible refine Kd.C_alloc ?_ _) | (with_reducible refine Kd.C_drewN ?_ _) | (with_reducible refine Kd.C_drew ?_))); (case side2 => exact (Kd.R_reads' HO_8.out).2.1); rintro e w51 ⟨v446, rfl, ho0, hb⟩; have n0_ := Aside0.mk (Kd.R_elder' (by (with_reducible repeat (first | apply Kd.R_alloc | apply Kd.R_drewN | apply Kd.R_drew)); exact HO_8.out) (Kd.R_base ho0) hb); have n1_ := Aside0.mk (Kd.R_elder' (by (with_reducible repeat (first | apply Kd.R_alloc | apply Kd.R_drewN | apply Kd.R_drew)); exact HO_9.out) (Kd.R_base ho0) hb); have n2_ := Aside0.mk (Kd.R_below (by (with_reducible repeat (first | apply Kd.R_alloc | apply Kd.R_drewN | apply Kd.R_drew)); exact HO_14.out) hb); have n3_ := Aside0.mk (Kd.R_below (by (with_reducible repeat (first | apply Kd.R_alloc | apply Kd.R_drewN | apply Kd.R_drew)); exact HO_17.out) hb); have n4_ := Aside0.mk (Kd.R_elder' (by (with_reducible repeat (first | apply Kd.R_alloc | apply Kd.R_drewN | apply Kd.R_drew)); exact HO443.out) (Kd.R_base ho0) hb); have n5_ := Aside0.mk (Kd.R_lower (Kd.R_new' (Kd.R_new' (Kd.R_new' ho0 (Kd.R_lt (by (with_reducible repeat (first | apply Kd.R_alloc | apply Kd.R_drewN | apply Kd.R_drew)); exact HO_8.out))) (Kd.R_lt (by (with_reducible repeat (first | apply Kd.R_alloc | apply Kd.R_drewN | apply Kd.R_drew)); exact HO_9.out))) (Kd.R_lt (by (with_reducible repeat (first | apply Kd.R_alloc | apply Kd.R_drewN | apply Kd.R_drew)); exact HO443.out))) (below_size (by repeat (first | (with_reducible first | exact HB.out | apply below_alloc | apply pw_below_drewN | apply below_drew1) | exact HB.out)))); have n6_ := Aside0.mk (below_step (by repeat (first | (with_reducible first | exact HB.out | apply below_alloc | apply pw_below_drewN | apply below_drew1) | exact HB.out)) hb); clear HO_8; clear HO_9; clear HO_14; clear HO_17; clear HO443; clear HB; have HO_8 := n0_; have HO_9 := n1_; have HO_14 := n2_; have HO_17 := n3_; have HO443 := n4_; have HO447 := n5_; have HB := n6_; clear n0_ n1_ n2_ n3_ n4_ n5_ n6_; (try clear hb); (try clear hb2); (try clear hk); (try clear hi); (try clear ho0); obtain ⟨Ao52, co52, eo52⟩ := Kd.R_slice HO447.out; subst eo52) | (go_at_call 23; (with_reducible refine (missiveref09_Same.calls kj17 _ _ t445 _ _ t422 true _ ?side1 ?side2 ?side3 ?side4 A46.out).mono ?_); (case side1 => repeat (first | exact (Kd.R_reads' HO447.out).2.2 | (with_reducible refine Kd.C_alloc ?_ _) | (with_reducible refine Kd.C_drewN ?_ _) | (with_reducible refine Kd.C_drew ?_))); (case side2 => exact (Kd.R_reads' HO447.out).2.1); (case side3 => repeat (first | exact (Kd.R_reads' HO_8.out).2.2 | (with_reducible refine Kd.C_alloc ?_ _) | (with_reducible refine Kd.C_drewN ?_ _) | (with_reducible refine Kd.C_drew ?_))); (case side4 => exact (Kd.R_reads' HO_8.out).2.1); rintro e w' ⟨rfl, ⟨nd, rfl⟩⟩; obtain ⟨Ao53, co53, eo53⟩ := Kd.R_slice HO_17.out; subst eo53))
                            go_ret
                            exact ⟨by first | rfl | (simp [errW_none, errW_some]; done) | (simp [errW_none, errW_some]; exact isEmpty_nbne _) | (simp [errW_none, errW_some]; exact isEmpty_bne _) | (simp [errW_none, errW_some] <;> rfl) | (simp [*, errW_none, errW_some] <;> rfl), by repeat (first | (with_reducible first | exact HB.out | apply below_alloc | apply pw_below_drewN | apply below_drew1) | exact HB.out)⟩
                          · replace c47 := Bool.eq_false_iff.mpr c47
                            subst c47
                            have H1 : (some false) = some r := by rw [if_neg (show ¬ (false = true) by decide)] at H; exact H
                            clear H
                            have H := H1
                            clear H1
                            obtain rfl := Option.some.inj H
                            obtain ⟨Ao54, co54, eo54⟩ := Kd.R_slice HO_14.out
                            subst eo54
                            go_wp2_with (first | (go_at_call 37; (with_reducible refine (header_Drop.calls kj17 _ _ t422 a1 t441 _ ?side1 ?side2 A42.out).mono ?_); (case side1 => repeat (first | exact (Kd.R_reads' HO_8.out).2.2 | (with_reducible refine Kd.C_alloc ?_ _) | (with_reducible refine Kd.C_drewN ?_ _) | (with_reducible refine Kd.C_drew ?_))); (case side2 => exact (Kd.R_reads' HO_8.out).2.1); rintro e w55 ⟨v442, rfl, ho0, hb⟩; have n0_ := Aside0.mk (Kd.R_elder' (by (with_reducible repeat (first | apply Kd.R_alloc | apply Kd.R_drewN | apply Kd.R_drew)); exact HO_8.out) (Kd.R_base ho0) hb); have n1_ := Aside0.mk (Kd.R_elder' (by (with_reducible repeat (first | apply Kd.R_alloc | apply Kd.R_drewN | apply Kd.R_drew)); exact HO_9.out) (Kd.R_base ho0) hb); have n2_ := Aside0.mk (Kd.R_below (by (with_reducible repeat (first | apply Kd.R_alloc | apply Kd.R_drewN | apply Kd.R_drew)); exact HO_14.out) hb); have n3_ := Aside0.mk (Kd.R_below (by (with_reducible repeat (first | apply Kd.R_alloc | apply Kd.R_drewN | apply Kd.R_drew)); exact HO_17.out) hb); have n4_ := Aside0.mk (Kd.R_lower (Kd.R_new' (Kd.R_new' ho0 (Kd.R_lt (by (with_reducible repeat (first | apply Kd.R_alloc | apply Kd.R_drewN | apply Kd.R_drew)); exact HO_8.out))) (Kd.R_lt (by (with_reducible repeat (first | apply Kd.R_alloc | apply Kd.R_drewN | apply Kd.R_drew)); exact HO_9.out))) (below_size (by repeat (first | (with_reducible first | exact HB.out | apply below_alloc | apply pw_below_drewN | apply below_drew1) | exact HB.out)))); have n5_ := Aside0.mk (below_step (by repeat (first | (with_reducible first | exact HB.out | apply below_alloc | apply pw_below_drewN | apply below_drew1) | exact HB.out)) hb); clear HO_8; clear HO_9; clear HO_14; clear HO_17; clear HB; have HO_8 := n0_; have HO_9 := n1_; have HO_14 := n2_; have HO_17 := n3_; have HO443 := n4_; have HB := n5_; clear n0_ n1_ n2_ n3_ n4_ n5_; (try clear hb); (try clear hb2); (try clear hk); (try clear hi); (try clear ho0); obtain ⟨Ao56, co56, eo56⟩ := Kd.R_slice HO443.out; subst eo56) | (go_at_call 23; (with_reducible refine (missiveref09_Same.calls kj17 _ _ t441 _ _ t425 true _ ?side1 ?side2 ?side3 ?side4 A43.out).mono ?_); (case side1 => repeat (first | exact (Kd.R_reads' HO443.out).2.2 | (with_reducible refine Kd.C_alloc ?_ _) | (with_reducible refine Kd.C_drewN ?_ _) | (with_reducible refine Kd.C_drew ?_))); (case side2 => exact (Kd.R_reads' HO443.out).2.1); (case side3 => repeat (first | exact (Kd.R_reads' HO_9.out).2.2 | (with_reducible refine Kd.C_alloc ?_ _) | (with_reducible refine Kd.C_drewN ?_ _) | (with_reducible refine Kd.C_drew ?_))); (case side4 => exact (Kd.R_reads' HO_9.out).2.1); rintro e w' ⟨rfl, ⟨nd, rfl⟩⟩) | (go_at_call 35; (with_reducible refine (header_Set.calls kj17 _ _ t422 a1 a2 t445 _ ?side1 ?side2 A45.out).mono ?_); (case side1 => repeat (first | exact (Kd.R_reads' HO_8.out).2.2 | (with_reducible refine Kd.C_alloc ?_ _) | (with_reducible refine Kd.C_drewN ?_ _) | (with_reducible refine Kd.C_drew ?_))); (case side2 => exact (Kd.R_reads' HO_8.out).2.1); rintro e w57 ⟨v446, rfl, ho0, hb⟩; have n0_ := Aside0.mk (Kd.R_elder' (by (with_reducible repeat (first | apply Kd.R_alloc | apply Kd.R_drewN | apply Kd.R_drew)); exact HO_8.out) (Kd.R_base ho0) hb); have n1_ := Aside0.mk (Kd.R_elder' (by (with_reducible repeat (first | apply Kd.R_alloc | apply Kd.R_drewN | apply Kd.R_drew)); exact HO_9.out) (Kd.R_base ho0) hb); have n2_ := Aside0.mk (Kd.R_below (by (with_reducible repeat (first | apply Kd.R_alloc | apply Kd.R_drewN | apply Kd.R_drew)); exact HO_14.out) hb); have n3_ := Aside0.mk (Kd.R_below (by (with_reducible repeat (first | apply Kd.R_alloc | apply Kd.R_drewN | apply Kd.R_drew)); exact HO_17.out) hb); have n4_ := Aside0.mk (Kd.R_elder' (by (with_reducible repeat (first | apply Kd.R_alloc | apply Kd.R_drewN | apply Kd.R_drew)); exact HO443.out) (Kd.R_base ho0) hb); have n5_ := Aside0.mk (Kd.R_lower (Kd.R_new' (Kd.R_new' (Kd.R_new' ho0 (Kd.R_lt (by (with_reducible repeat (first | apply Kd.R_alloc | apply Kd.R_drewN | apply Kd.R_drew)); exact HO_8.out))) (Kd.R_lt (by (with_reducible repeat (first | apply Kd.R_alloc | apply Kd.R_drewN | apply Kd.R_drew)); exact HO_9.out))) (Kd.R_lt (by (with_reducible repeat (first | apply Kd.R_alloc | apply Kd.R_drewN | apply Kd.R_drew)); exact HO443.out))) (below_size (by repeat (first | (with_reducible first | exact HB.out | apply below_alloc | apply pw_below_drewN | apply below_drew1) | exact HB.out)))); have n6_ := Aside0.mk (below_step (by repeat (first | (with_reducible first | exact HB.out | apply below_alloc | apply pw_below_drewN | apply below_drew1) | exact HB.out)) hb); clear HO_8; clear HO_9; clear HO_14; clear HO_17; clear HO443; clear HB; have HO_8 := n0_; have HO_9 := n1_; have HO_14 := n2_; have HO_17 := n3_; have HO443 := n4_; have HO447 := n5_; have HB := n6_; clear n0_ n1_ n2_ n3_ n4_ n5_ n6_; (try clear hb); (try clear hb2); (try clear hk); (try clear hi); (try clear ho0); obtain ⟨Ao58, co58, eo58⟩ := Kd.R_slice HO447.out; subst eo58) | (go_at_call 23; (with_reducible refine (missiveref09_Same.calls kj17 _ _ t445 _ _ t422 false _ ?side1 ?side2 ?side3 ?side4 A46.out).mono ?_); (case side1 => repeat (first | exact (Kd.R_reads' HO447.out).2.2 | (with_reducible refine Kd.C_alloc ?_ _) | (with_reducible refine Kd.C_drewN ?_ _) | (with_reducible refine Kd.C_drew ?_))); (case side2 => exact (Kd.R_reads' HO447.out).2.1); (case side3 => repeat (first | exact (Kd.R_reads' HO_8.out).2.2 | (with_reducible refine Kd.C_alloc ?_ _) | (with_reducible refine Kd.C_drewN ?_ _) | (with_reducible refine Kd.C_drew ?_))); (case side4 => exact (Kd.R_reads' HO_8.out).2.1); rintro e w' ⟨rfl, ⟨nd, rfl⟩⟩))
                            go_ret
                            exact ⟨by first | rfl | (simp [errW_none, errW_some]; done) | (simp [errW_none, errW_some]; exact isEmpty_nbne _) | (simp [errW_none, errW_some]; exact isEmpty_bne _) | (simp [errW_none, errW_some] <;> rfl) | (simp [*, errW_none, errW_some] <;> rfl), by repeat (first | (with_reducible first | exact HB.out | apply below_alloc | apply pw_below_drewN | apply below_drew1) | exact HB.out)⟩
                        · replace c44 := Bool.eq_false_iff.mpr c44
                          subst c44
                          have H1 : (some false) = some r := by rw [if_neg (show ¬ (false = true) by decide)] at H; exact H
                          clear H
                          have H := H1
                          clear H1
                          obtain rfl := Option.some.inj H
                          obtain ⟨Ao59, co59, eo59⟩ := Kd.R_slice HO_14.out
                          subst eo59
                          go_wp2_with (first | (go_at_call 37; (with_reducible refine (header_Drop.calls kj17 _ _ t422 a1 t441 _ ?side1 ?side2 A42.out).mono ?_); (case side1 => repeat (first | exact (Kd.R_reads' HO_8.out).2.2 | (with_reducible refine Kd.C_alloc ?_ _) | (with_reducible refine Kd.C_drewN ?_ _) | (with_reducible refine Kd.C_drew ?_))); (case side2 => exact (Kd.R_reads' HO_8.out).2.1); rintro e w60 ⟨v442, rfl, ho0, hb⟩; have n0_ := Aside0.mk (Kd.R_elder' (by (with_reducible repeat (first | apply Kd.R_alloc | apply Kd.R_drewN | apply Kd.R_drew)); exact HO_8.out) (Kd.R_base ho0) hb); have n1_ := Aside0.mk (Kd.R_elder' (by (with_reducible repeat (first | apply Kd.R_alloc | apply Kd.R_drewN | apply Kd.R_drew)); exact HO_9.out) (Kd.R_base ho0) hb); have n2_ := Aside0.mk (Kd.R_below (by (with_reducible repeat (first | apply Kd.R_alloc | apply Kd.R_drewN | apply Kd.R_drew)); exact HO_14.out) hb); have n3_ := Aside0.mk (Kd.R_below (by (with_reducible repeat (first | apply Kd.R_alloc | apply Kd.R_drewN | apply Kd.R_drew)); exact HO_17.out) hb); have n4_ := Aside0.mk (Kd.R_lower (Kd.R_new' (Kd.R_new' ho0 (Kd.R_lt (by (with_reducible repeat (first | apply Kd.R_alloc | apply Kd.R_drewN | apply Kd.R_drew)); exact HO_8.out))) (Kd.R_lt (by (with_reducible repeat (first | apply Kd.R_alloc | apply Kd.R_drewN | apply Kd.R_drew)); exact HO_9.out))) (below_size (by repeat (first | (with_reducible first | exact HB.out | apply below_alloc | apply pw_below_drewN | apply below_drew1) | exact HB.out)))); have n5_ := Aside0.mk (below_step (by repeat (first | (with_reducible first | exact HB.out | apply below_alloc | apply pw_below_drewN | apply below_drew1) | exact HB.out)) hb); clear HO_8; clear HO_9; clear HO_14; clear HO_17; clear HB; have HO_8 := n0_; have HO_9 := n1_; have HO_14 := n2_; have HO_17 := n3_; have HO443 := n4_; have HB := n5_; clear n0_ n1_ n2_ n3_ n4_ n5_; (try clear hb); (try clear hb2); (try clear hk); (try clear hi); (try clear ho0); obtain ⟨Ao61, co61, eo61⟩ := Kd.R_slice HO443.out; subst eo61) | (go_at_call 23; (with_reducible refine (missiveref09_Same.calls kj17 _ _ t441 _ _ t425 false _ ?side1 ?side2 ?side3 ?side4 A43.out).mono ?_); (case side1 => repeat (first | exact (Kd.R_reads' HO443.out).2.2 | (with_reducible refine Kd.C_alloc ?_ _) | (with_reducible refine Kd.C_drewN ?_ _) | (with_reducible refine Kd.C_drew ?_))); (case side2 => exact (Kd.R_reads' HO443.out).2.1); (case side3 => repeat (first | exact (Kd.R_reads' HO_9.out).2.2 | (with_reducible refine Kd.C_alloc ?_ _) | (with_reducible refine Kd.C_drewN ?_ _) | (with_reducible refine Kd.C_drew ?_))); (case side4 => exact (Kd.R_reads' HO_9.out).2.1); rintro e w' ⟨rfl, ⟨nd, rfl⟩⟩))
                          go_ret
                          exact ⟨by first | rfl | (simp [errW_none, errW_some]; done) | (simp [errW_none, errW_some]; exact isEmpty_nbne _) | (simp [errW_none, errW_some]; exact isEmpty_bne _) | (simp [errW_none, errW_some] <;> rfl) | (simp [*, errW_none, errW_some] <;> rfl), by repeat (first | (with_reducible first | exact HB.out | apply below_alloc | apply pw_below_drewN | apply below_drew1) | exact HB.out)⟩
                      · rw [if_neg c41] at H
                        have c41b0 : ((t432.length : Int) == 1) = false := beq_eq_false_iff_ne.mpr c41
                        have c41b1 : ((t432.length : Int) != 1) = true := bne_iff_ne.mpr c41
                        obtain rfl := Option.some.inj H
                        obtain ⟨Ao62, co62, eo62⟩ := Kd.R_slice HO_14.out
                        subst eo62
                        go_wp2
                        go_ret
                        exact ⟨by first | rfl | (simp [errW_none, errW_some]; done) | (simp [errW_none, errW_some]; exact isEmpty_nbne _) | (simp [errW_none, errW_some]; exact isEmpty_bne _) | (simp [errW_none, errW_some] <;> rfl) | (simp [*, errW_none, errW_some] <;> rfl), by repeat (first | (with_reducible first | exact HB.out | apply below_alloc | apply pw_below_drewN | apply below_drew1) | exact HB.out)⟩
                  · rw [if_neg c39] at H
                    have c39b0 : (t428.toList == a2.toList) = false := beq_eq_false_iff_ne.mpr c39
                    have c39b1 : (t428.toList != a2.toList) = true := bne_iff_ne.mpr c39
                    obtain rfl := Option.some.inj H
                    go_wp2
                    go_ret
                    exact ⟨by first | rfl | (simp [errW_none, errW_some]; done) | (simp [errW_none, errW_some]; exact isEmpty_nbne _) | (simp [errW_none, errW_some]; exact isEmpty_bne _) | (simp [errW_none, errW_some] <;> rfl) | (simp [*, errW_none, errW_some] <;> rfl), by repeat (first | (with_reducible first | exact HB.out | apply below_alloc | apply pw_below_drewN | apply below_drew1) | exact HB.out)⟩
                · replace c38 := Bool.eq_false_iff.mpr c38
                  subst c38
                  have H1 : (some false) = some r := by rw [if_neg (show ¬ (false = true) by decide)] at H; exact H
                  clear H
                  have H := H1
                  clear H1
                  obtain rfl := Option.some.inj H
                  go_wp2
                  go_ret
                  exact ⟨by first | rfl | (simp [errW_none, errW_some]; done) | (simp [errW_none, errW_some]; exact isEmpty_nbne _) | (simp [errW_none, errW_some]; exact isEmpty_bne _) | (simp [errW_none, errW_some] <;> rfl) | (simp [*, errW_none, errW_some] <;> rfl), by repeat (first | (with_reducible first | exact HB.out | apply below_alloc | apply pw_below_drewN | apply below_drew1) | exact HB.out)⟩
              · replace c37 := Bool.eq_false_iff.mpr c37
                subst c37
                have H1 : (some false) = some r := by rw [if_neg (show ¬ (false = true) by decide)] at H; exact H
                clear H
                have H := H1
                clear H1
                obtain rfl := Option.some.inj H
                go_wp2
                go_ret
                exact ⟨by first | rfl | (simp [errW_none, errW_some]; done) | (simp [errW_none, errW_some]; exact isEmpty_nbne _) | (simp [errW_none, errW_some]; exact isEmpty_bne _) | (simp [errW_none, errW_some] <;> rfl) | (simp [*, errW_none, errW_some] <;> rfl), by repeat (first | (with_reducible first | exact HB.out | apply below_alloc | apply pw_below_drewN | apply below_drew1) | exact HB.out)⟩

end Go.Proofs.YtieompfmhnpnaaaGreat.H
