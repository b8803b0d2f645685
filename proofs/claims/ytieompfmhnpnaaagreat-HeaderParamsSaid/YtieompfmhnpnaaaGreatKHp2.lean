/- Part 2 of the proof of Hp: contracts and plain laws, joined and shortened by bundle.py of this repo. -/
import Derived.Test.YtieompfmhnpnaaaGreatKHp1
import Derived.Deep.QuietTactic
import Derived.BigQuiet
import Derived.Conc.MuLone
import Derived.Defers
import Derived.Laws.LoneSync
import Derived.Laws.NewBlocks
import Derived.RegionTactic
import Derived.RegionCalls
import Derived.KernelRfl
import Derived.Lib.Hide
section
namespace Go.Proofs.YtieompfmhnpnaaaGreat.H
open Go.RowKit Go.Proofs.YtieompfmhnpnaaaGreatW.PrintWords Go.Proofs.YtieompfmhnpnaaaGreatW.PrintLast Go.Proofs.YtieompfmhnpnaaaGreatW.PrintMore
attribute [local go_sem] max2_int min2_int max_two min_two max_three min_three max_four min_four
set_option linter.unusedVariables false
set_option linter.unusedSimpArgs false
def missiveref09_quoted.l0 : Nat → ByteArray → Int → Option (Int)
  | 0, _, _ => none
  | k + 1, x0, x5 => if x5 < (x0.size : Int) then (if 0 ≤ x5 then (if (bt x0 x5) = 34 then (some (wrap64 (x5 + 1))) else (if (bt x0 x5) = 92 then (missiveref09_quoted.l0 k x0 (wrap64 ((wrap64 (x5 + 1)) + 1))) else (missiveref09_quoted.l0 k x0 (wrap64 (x5 + 1))))) else (none)) else (some (x0.size : Int))
def missiveref09_quoted.f (k : Nat) (a0 : ByteArray) (a1 : Int) : Option (Int) := missiveref09_quoted.l0 k a0 (wrap64 (a1 + 1))
theorem missiveref09_quoted.mono_l : ∀ k, (∀ y0 y1, LeO (missiveref09_quoted.l0 k y0 y1) (missiveref09_quoted.l0 (k + 1) y0 y1))
  | 0 => fun _ _ r h => by simp [missiveref09_quoted.l0] at h
  | k + 1 => by
    have ih0 := missiveref09_quoted.mono_l k
    · intro y0 y1
      unfold missiveref09_quoted.l0
      repeat' first
      | (with_reducible exact ih0 _ _)
      | (with_reducible exact LeO.refl _)
      | (with_reducible exact LeO.none _)
      | (with_reducible refine LeO.ite ?_ ?_)
      | (with_reducible refine LeO.bind ?_ (fun _ => ?_))
      | exact ih0 _ _
      | exact LeO.none _
      | refine LeO.ite ?_ ?_
      | refine LeO.bind ?_ (fun _ => ?_)
theorem missiveref09_quoted.mono : ∀ a0 a1 k, LeO (missiveref09_quoted.f k a0 a1) (missiveref09_quoted.f (k + 1) a0 a1) := by
  intro a0 a1 k
  have ih0 := missiveref09_quoted.mono_l k
  unfold missiveref09_quoted.f
  repeat' first
      | (with_reducible exact ih0 _ _)
      | (with_reducible exact LeO.refl _)
      | (with_reducible exact LeO.none _)
      | (with_reducible refine LeO.ite ?_ ?_)
      | (with_reducible refine LeO.bind ?_ (fun _ => ?_))
      | exact ih0 _ _
      | exact LeO.none _
      | refine LeO.ite ?_ ?_
      | refine LeO.bind ?_ (fun _ => ?_)
set_option maxHeartbeats 8000000 in
set_option maxRecDepth 100000 in
theorem missiveref09_quoted.calls (k : Nat) (a0 : ByteArray) (a1 : Int) (r : Int) (w : World) (h : missiveref09_quoted.f k a0 a1 = some r) :
    Calls Tryz.prog 76 #[.string a0, .int .i64 a1] w fun e w' => e = .returned (.int .i64 r) ∧ Drawn0 w w' := by
  have H : (missiveref09_quoted.l0 k a0 (wrap64 (a1 + 1))) = some r := h
  clear h
  have H' := Aside0.mk H
  clear H
  go_enter Tryz.func76, Tryz.ntmps76
  go_wp2
  go_loopg [5] k (fun kq v5 w' => ∃ (x5_1 : Int), v5 = .int .i64 x5_1 ∧ Aside0 (missiveref09_quoted.l0 kq a0 x5_1 = some r) ∧ Aside0 (kq ≤ k) ∧ Drawn0 w w')
  case atStart => exact ⟨(wrap64 (a1 + 1)), (by first | rfl | (simp; done) | (simp [*]; done)), H', ⟨Nat.le_refl _⟩, by repeat (first | exact Drawn0.refl _ | apply Drawn0.step)⟩
  case round =>
    clear H'
    try clear p2
    obtain ⟨x5_1, rfl, HA, HK1, ⟨m1, rfl⟩⟩ := hrel
    cases gk with
    | zero => exact absurd HA.out (by simp [missiveref09_quoted.l0])
    | succ k1 =>
      have H := HA.out
      clear HA
      simp only [missiveref09_quoted.l0] at H
      by_cases c3 : x5_1 < (a0.size : Int)
      · rw [if_pos c3] at H
        have c3b0 : decide (x5_1 < (a0.size : Int)) = true := decide_eq_true c3
        clear c3
        by_cases c4 : 0 ≤ x5_1
        · rw [if_pos c4] at H
          have c4b0 : decide (0 ≤ x5_1) = true := decide_eq_true c4
          clear c4
          by_cases c6 : (bt a0 x5_1) = 34
          · rw [if_pos c6] at H
            have c6b0 : ((bt a0 x5_1) == 34) = true := beq_iff_eq.mpr c6
            have c6b1 : ((bt a0 x5_1) != 34) = false := bne_eq_false_iff_eq.mpr c6
            clear c6
            obtain rfl := Option.some.inj H
            have p5 : 0 ≤ (x5_1 : Int) := of_decide_eq_true (by first | (with_reducible assumption) | assumption)
            have q5 : x5_1 < (a0.size : Int) := of_decide_eq_true (by first | (with_reducible assumption) | assumption)
            have hx5 := bt_at a0 x5_1
            replace p5 := eq_true p5
            replace q5 := eq_true q5
            go_wp2
            go_ret
            exact ⟨by first | rfl | (simp; done) | (simp [*]; done), by repeat (first | exact Drawn0.refl _ | apply Drawn0.step)⟩
          · rw [if_neg c6] at H
            have c6b0 : ((bt a0 x5_1) == 34) = false := beq_eq_false_iff_ne.mpr c6
            have c6b1 : ((bt a0 x5_1) != 34) = true := bne_iff_ne.mpr c6
            by_cases c8 : (bt a0 x5_1) = 92
            · rw [if_pos c8] at H
              have c8b0 : ((bt a0 x5_1) == 92) = true := beq_iff_eq.mpr c8
              have c8b1 : ((bt a0 x5_1) != 92) = false := bne_eq_false_iff_eq.mpr c8
              clear c8
              have H' := Aside0.mk H
              clear H
              have p5 : 0 ≤ (x5_1 : Int) := of_decide_eq_true (by first | (with_reducible assumption) | assumption)
              have q5 : x5_1 < (a0.size : Int) := of_decide_eq_true (by first | (with_reducible assumption) | assumption)
              have hx5 := bt_at a0 x5_1
              replace p5 := eq_true p5
              replace q5 := eq_true q5
              have p7 : 0 ≤ (x5_1 : Int) := of_decide_eq_true (by first | (with_reducible assumption) | assumption)
              have q7 : x5_1 < (a0.size : Int) := of_decide_eq_true (by first | (with_reducible assumption) | assumption)
              have hx7 := bt_at a0 x5_1
              replace p7 := eq_true p7
              replace q7 := eq_true q7
              go_wp2
              go_roundg k1
              case measure => have := HK1.out; omega
              case rel => exact ⟨(wrap64 ((wrap64 (x5_1 + 1)) + 1)), (by first | rfl | (simp; done) | (simp [*]; done)), H', ⟨by have := HK1.out; omega⟩, by repeat (first | exact Drawn0.refl _ | apply Drawn0.step)⟩
            · rw [if_neg c8] at H
              have c8b0 : ((bt a0 x5_1) == 92) = false := beq_eq_false_iff_ne.mpr c8
              have c8b1 : ((bt a0 x5_1) != 92) = true := bne_iff_ne.mpr c8
              have H' := Aside0.mk H
              clear H
              have p5 : 0 ≤ (x5_1 : Int) := of_decide_eq_true (by first | (with_reducible assumption) | assumption)
              have q5 : x5_1 < (a0.size : Int) := of_decide_eq_true (by first | (with_reducible assumption) | assumption)
              have hx5 := bt_at a0 x5_1
              replace p5 := eq_true p5
              replace q5 := eq_true q5
              have p7 : 0 ≤ (x5_1 : Int) := of_decide_eq_true (by first | (with_reducible assumption) | assumption)
              have q7 : x5_1 < (a0.size : Int) := of_decide_eq_true (by first | (with_reducible assumption) | assumption)
              have hx7 := bt_at a0 x5_1
              replace p7 := eq_true p7
              replace q7 := eq_true q7
              go_wp2
              go_roundg k1
              case measure => have := HK1.out; omega
              case rel => exact ⟨(wrap64 (x5_1 + 1)), (by first | rfl | (simp; done) | (simp [*]; done)), H', ⟨by have := HK1.out; omega⟩, by repeat (first | exact Drawn0.refl _ | apply Drawn0.step)⟩
        · rw [if_neg c4] at H
          exact absurd H (by simp)
      · rw [if_neg c3] at H
        have c3b0 : decide (x5_1 < (a0.size : Int)) = false := decide_eq_false c3
        clear c3
        obtain rfl := Option.some.inj H
        go_wp2
        go_ret
        exact ⟨by first | rfl | (simp; done) | (simp [*]; done), by repeat (first | exact Drawn0.refl _ | apply Drawn0.step)⟩
end Go.Proofs.YtieompfmhnpnaaaGreat.H
namespace Go.Proofs.YtieompfmhnpnaaaGreat.H
open Go.RowKit Go.Proofs.YtieompfmhnpnaaaGreatW.PrintWords Go.Proofs.YtieompfmhnpnaaaGreatW.PrintLast Go.Proofs.YtieompfmhnpnaaaGreatW.PrintMore
attribute [local go_sem] max2_int min2_int max_two min_two max_three min_three max_four min_four
set_option linter.unusedVariables false
set_option linter.unusedSimpArgs false
def missiveref09_Pieces.l0 : Nat → ByteArray → List ByteArray → Int → Int → Option (List ByteArray)
  | 0, _, _, _, _ => none
  | k + 1, x0, x3, x4, x5 => if x5 < (x0.size : Int) then (if 0 ≤ x5 then (if (bt x0 x5) = 34 then ((missiveref09_quoted.f k x0 x5).bind fun t154 => (missiveref09_Pieces.l0 k x0 x3 x4 t154)) else (if (bt x0 x5) = 59 then (if 0 ≤ x4 then (if x4 ≤ x5 then (if x5 ≤ (x0.size : Int) then (if x3.length < 8796093022208 then (missiveref09_Pieces.l0 k x0 (x3 ++ [x0.extract (x4 : Int).toNat (x5 : Int).toNat]) (wrap64 (x5 + 1)) (wrap64 (x5 + 1))) else (none)) else (none)) else (none)) else (none)) else (missiveref09_Pieces.l0 k x0 x3 x4 (wrap64 (x5 + 1))))) else (none)) else (if 0 ≤ x4 then (if x4 ≤ (x0.size : Int) then (if x3.length < 8796093022208 then (some (x3 ++ [x0.extract (x4 : Int).toNat x0.size])) else (none)) else (none)) else (none))
def missiveref09_Pieces.f (k : Nat) (a0 : ByteArray) : Option (List ByteArray) := missiveref09_Pieces.l0 k a0 ([] : List ByteArray) 0 0
theorem missiveref09_Pieces.mono_l : ∀ k, (∀ y0 y1 y2 y3, LeO (missiveref09_Pieces.l0 k y0 y1 y2 y3) (missiveref09_Pieces.l0 (k + 1) y0 y1 y2 y3))
  | 0 => fun _ _ _ _ r h => by simp [missiveref09_Pieces.l0] at h
  | k + 1 => by
    have ih0 := missiveref09_Pieces.mono_l k
    · intro y0 y1 y2 y3
      unfold missiveref09_Pieces.l0
      repeat' first
      | (with_reducible exact ih0 _ _ _ _)
      | (with_reducible exact missiveref09_quoted.mono _ _ _)
      | (with_reducible exact LeO.refl _)
      | (with_reducible exact LeO.none _)
      | (with_reducible refine LeO.ite ?_ ?_)
      | (with_reducible refine LeO.bind ?_ (fun _ => ?_))
      | exact ih0 _ _ _ _
      | exact missiveref09_quoted.mono _ _ _
      | exact LeO.none _
      | refine LeO.ite ?_ ?_
      | refine LeO.bind ?_ (fun _ => ?_)
theorem missiveref09_Pieces.mono : ∀ a0 k, LeO (missiveref09_Pieces.f k a0) (missiveref09_Pieces.f (k + 1) a0) := by
  intro a0 k
  have ih0 := missiveref09_Pieces.mono_l k
  unfold missiveref09_Pieces.f
  repeat' first
      | (with_reducible exact ih0 _ _ _ _)
      | (with_reducible exact missiveref09_quoted.mono _ _ _)
      | (with_reducible exact LeO.refl _)
      | (with_reducible exact LeO.none _)
      | (with_reducible refine LeO.ite ?_ ?_)
      | (with_reducible refine LeO.bind ?_ (fun _ => ?_))
      | exact ih0 _ _ _ _
      | exact missiveref09_quoted.mono _ _ _
      | exact LeO.none _
      | refine LeO.ite ?_ ?_
      | refine LeO.bind ?_ (fun _ => ?_)
set_option maxHeartbeats 8000000 in
set_option maxRecDepth 100000 in
theorem missiveref09_Pieces.calls (k : Nat) (a0 : ByteArray) (r : List ByteArray) (w : World) (h : missiveref09_Pieces.f k a0 = some r) :
    Calls Tryz.prog 43 #[.string a0] w fun e w' => ∃ v0_ : Value, e = .returned (v0_) ∧ Kd.R Kd.string 9 w' w.heap.size (fun _ => True) v0_ r ∧ Below w.heap.size w w' := by
  have HB := Aside0.mk (Below.refl w.heap.size w)
  have H : (missiveref09_Pieces.l0 k a0 ([] : List ByteArray) 0 0) = some r := h
  clear h
  have H' := Aside0.mk H
  clear H
  go_enter Tryz.func43, Tryz.ntmps43
  go_wp2
  go_loopg [3, 4, 5] k (fun kq v3 v4 v5 w' => ∃ (x3_1 : List ByteArray) (x4_1 : Int) (x5_1 : Int), v4 = .int .i64 x4_1 ∧ v5 = .int .i64 x5_1 ∧ Aside0 (missiveref09_Pieces.l0 kq a0 x3_1 x4_1 x5_1 = some r) ∧ Aside0 (kq ≤ k) ∧ Aside0 (Kd.R Kd.string 9 w' w.heap.size (fun _ => True) v3 x3_1) ∧ Aside0 (Below w.heap.size w w'))
  case atStart => exact ⟨(([] : List ByteArray)), (0), (0), (by first | rfl | (simp; done) | (simp [*]; done)), (by first | rfl | (simp; done) | (simp [*]; done)), H', ⟨Nat.le_refl _⟩, ⟨by first | exact Kd.R_nil _ _ _ _ _ | exact Kd.N_nil _ _ _ _ _ | exact Kd.V_nil _ _ _ _ _ | exact Kd.Q_nil _ _ _ _ _ | exact Kd.S_nil _ _ _ _ _⟩, ⟨by repeat (first | (with_reducible first | exact HB.out | apply below_alloc | apply pw_below_drewN | apply below_drew1) | exact HB.out)⟩⟩
  case round =>
    clear H'
    obtain ⟨x3_1, x4_1, x5_1, rfl, rfl, HA, HK1, HO_3, HB⟩ := hrel
    cases gk with
    | zero => exact absurd HA.out (by simp [missiveref09_Pieces.l0])
    | succ k1 =>
      have H := HA.out
      clear HA
      simp only [missiveref09_Pieces.l0] at H
      by_cases c2 : x5_1 < (a0.size : Int)
      · rw [if_pos c2] at H
        have c2b0 : decide (x5_1 < (a0.size : Int)) = true := decide_eq_true c2
        clear c2
        by_cases c3 : 0 ≤ x5_1
        · rw [if_pos c3] at H
          have c3b0 : decide (0 ≤ x5_1) = true := decide_eq_true c3
          clear c3
          by_cases c5 : (bt a0 x5_1) = 34
          · rw [if_pos c5] at H
            have c5b0 : ((bt a0 x5_1) == 34) = true := beq_iff_eq.mpr c5
            have c5b1 : ((bt a0 x5_1) != 34) = false := bne_eq_false_iff_eq.mpr c5
            clear c5
            replace H := Option.bind_eq_some_iff.mp H
            obtain ⟨t154, A60, H⟩ := H
            replace H : (missiveref09_Pieces.l0 k1 a0 x3_1 x4_1 t154) = some r := H
            have A6 := Aside0.mk A60
            clear A60
            have H' := Aside0.mk H
            clear H
            have p4 : 0 ≤ (x5_1 : Int) := of_decide_eq_true (by first | (with_reducible assumption) | assumption)
            have q4 : x5_1 < (a0.size : Int) := of_decide_eq_true (by first | (with_reducible assumption) | assumption)
            have hx4 := bt_at a0 x5_1
            replace p4 := eq_true p4
            replace q4 := eq_true q4
            go_wp2_with (first | ((with_reducible refine gate_callee (f := 76) rfl ?_); refine goesL_ (some 16) rfl rfl Tryz.func76 (by kernel_rfl) rfl #[.string a0, .int .i64 x5_1] rfl (by (try simp only [List.map_toArray, List.map_cons, List.map_nil]); first | done | rfl | (simp only [List.length_drop, List.length_take]; rfl)) ?_; (with_reducible refine (missiveref09_quoted.calls k1 a0 x5_1 t154 _ A6.out).mono ?_); rintro e w' ⟨rfl, ⟨nd, rfl⟩⟩; refine ⟨_, rfl, ?_⟩))
            go_roundg k1
            case measure => have := HK1.out; omega
            case rel => exact ⟨(x3_1), (x4_1), (t154), (by first | rfl | (simp; done) | (simp [*]; done)), (by first | rfl | (simp; done) | (simp [*]; done)), H', ⟨by have := HK1.out; omega⟩, ⟨by (with_reducible repeat (first | apply Kd.R_alloc | apply Kd.R_drewN | apply Kd.R_drew)); exact HO_3.out⟩, ⟨by repeat (first | (with_reducible first | exact HB.out | apply below_alloc | apply pw_below_drewN | apply below_drew1) | exact HB.out)⟩⟩
          · rw [if_neg c5] at H
            have c5b0 : ((bt a0 x5_1) == 34) = false := beq_eq_false_iff_ne.mpr c5
            have c5b1 : ((bt a0 x5_1) != 34) = true := bne_iff_ne.mpr c5
            by_cases c8 : (bt a0 x5_1) = 59
            · rw [if_pos c8] at H
              have c8b0 : ((bt a0 x5_1) == 59) = true := beq_iff_eq.mpr c8
              have c8b1 : ((bt a0 x5_1) != 59) = false := bne_eq_false_iff_eq.mpr c8
              clear c8
              by_cases c9 : 0 ≤ x4_1
              · rw [if_pos c9] at H
                have c9b0 := eq_true c9
                have c9b1 : decide (0 ≤ x4_1) = true := decide_eq_true c9
                clear c9
                by_cases c10 : x4_1 ≤ x5_1
                · rw [if_pos c10] at H
                  have c10b0 := eq_true c10
                  have c10b1 : decide (x4_1 ≤ x5_1) = true := decide_eq_true c10
                  clear c10
                  by_cases c11 : x5_1 ≤ (a0.size : Int)
                  · rw [if_pos c11] at H
                    have c11b0 := eq_true c11
                    have c11b1 : decide (x5_1 ≤ (a0.size : Int)) = true := decide_eq_true c11
                    clear c11
                    by_cases c12 : x3_1.length < 8796093022208
                    · rw [if_pos c12] at H
                      have LMc12 := Aside0.mk c12
                      clear c12
                      obtain ⟨y155, hy155⟩ : ∃ y_ : List ByteArray, y_ = (x3_1 ++ [a0.extract (x4_1 : Int).toNat (x5_1 : Int).toNat]) := ⟨_, rfl⟩
                      replace H : (missiveref09_Pieces.l0 k1 a0 y155 (wrap64 (x5_1 + 1)) (wrap64 (x5_1 + 1))) = some r := by first | (rw [hy155]; with_reducible exact H) | (have H2_ := (Option.bind_some _ _).symm.trans H; rw [hy155]; with_reducible exact H2_) | (have H2_ := (Option.bind_some _ _).symm.trans H; with_reducible exact H2_) | with_reducible exact H | (rw [hy155]; exact H) | exact H
                      have Ny155 := Aside0.mk hy155
                      clear hy155
                      have H' := Aside0.mk H
                      clear H
                      have p4 : 0 ≤ (x5_1 : Int) := of_decide_eq_true (by first | (with_reducible assumption) | assumption)
                      have q4 : x5_1 < (a0.size : Int) := of_decide_eq_true (by first | (with_reducible assumption) | assumption)
                      have hx4 := bt_at a0 x5_1
                      replace p4 := eq_true p4
                      replace q4 := eq_true q4
                      have p7 : 0 ≤ (x5_1 : Int) := of_decide_eq_true (by first | (with_reducible assumption) | assumption)
                      have q7 : x5_1 < (a0.size : Int) := of_decide_eq_true (by first | (with_reducible assumption) | assumption)
                      have hx7 := bt_at a0 x5_1
                      replace p7 := eq_true p7
                      replace q7 := eq_true q7
                      go_wp2_with (first | ((with_reducible refine gate_builtin (b := .append) (xs := #[.tmp 21, .tmp 26]) rfl ?_); at_builtin; refine Kd.R_append Kd.string (w0 := w) w.heap.size rfl (.tmp 21) (.tmp 26) 42 9 (.string ⟨#[]⟩) 16 rfl Tryz.underlying42 info9 rfl (by decide) (by omega) u3 x3_1 (a0.extract (x4_1 : Int).toNat (x5_1 : Int).toNat) [.string (a0.extract (x4_1 : Int).toNat (x5_1 : Int).toNat)] (fun _ => True) (fun _ => False) rfl rfl ?aP (fun _ hk => hk.elim) ?aF ?aO ?aB ?aS ?aL ?_; (case aP => exact rfl); (case aB => exact (by repeat (first | (with_reducible first | exact HB.out | apply below_alloc | apply pw_below_drewN | apply below_drew1) | exact HB.out))); (case aF => exact (fun _ _ => trivial)); (case aO => exact (by (with_reducible repeat (first | apply Kd.R_alloc | apply Kd.R_drewN | apply Kd.R_drew)); exact HO_3.out)); (case aS => exact (below_size (by repeat (first | (with_reducible first | exact HB.out | apply below_alloc | apply pw_below_drewN | apply below_drew1) | exact HB.out)))); (case aL => have := LMc12.out; omega); intro v156 w13 ho hb hg hat; rw [← Ny155.out] at ho; have n0_ := Aside0.mk (hb); have n1_ := Aside0.mk (ho); clear HB; clear HO_3; have HB := n0_; have HO157 := n1_; clear n0_ n1_; clear ho hb hg hat))
                      go_roundg k1
                      case measure => have := HK1.out; omega
                      case rel => exact ⟨(y155), (wrap64 (x5_1 + 1)), (wrap64 (x5_1 + 1)), (by first | rfl | (simp; done) | (simp [*]; done)), (by first | rfl | (simp; done) | (simp [*]; done)), H', ⟨by have := HK1.out; omega⟩, ⟨by (with_reducible repeat (first | apply Kd.R_alloc | apply Kd.R_drewN | apply Kd.R_drew)); exact HO157.out⟩, ⟨by repeat (first | (with_reducible first | exact HB.out | apply below_alloc | apply pw_below_drewN | apply below_drew1) | exact HB.out)⟩⟩
                    · rw [if_neg c12] at H
                      exact absurd H (by simp)
                  · rw [if_neg c11] at H
                    exact absurd H (by simp)
                · rw [if_neg c10] at H
                  exact absurd H (by simp)
              · rw [if_neg c9] at H
                exact absurd H (by simp)
            · rw [if_neg c8] at H
              have c8b0 : ((bt a0 x5_1) == 59) = false := beq_eq_false_iff_ne.mpr c8
              have c8b1 : ((bt a0 x5_1) != 59) = true := bne_iff_ne.mpr c8
              have H' := Aside0.mk H
              clear H
              have p4 : 0 ≤ (x5_1 : Int) := of_decide_eq_true (by first | (with_reducible assumption) | assumption)
              have q4 : x5_1 < (a0.size : Int) := of_decide_eq_true (by first | (with_reducible assumption) | assumption)
              have hx4 := bt_at a0 x5_1
              replace p4 := eq_true p4
              replace q4 := eq_true q4
              have p7 : 0 ≤ (x5_1 : Int) := of_decide_eq_true (by first | (with_reducible assumption) | assumption)
              have q7 : x5_1 < (a0.size : Int) := of_decide_eq_true (by first | (with_reducible assumption) | assumption)
              have hx7 := bt_at a0 x5_1
              replace p7 := eq_true p7
              replace q7 := eq_true q7
              go_wp2
              go_roundg k1
              case measure => have := HK1.out; omega
              case rel => exact ⟨(x3_1), (x4_1), (wrap64 (x5_1 + 1)), (by first | rfl | (simp; done) | (simp [*]; done)), (by first | rfl | (simp; done) | (simp [*]; done)), H', ⟨by have := HK1.out; omega⟩, ⟨by (with_reducible repeat (first | apply Kd.R_alloc | apply Kd.R_drewN | apply Kd.R_drew)); exact HO_3.out⟩, ⟨by repeat (first | (with_reducible first | exact HB.out | apply below_alloc | apply pw_below_drewN | apply below_drew1) | exact HB.out)⟩⟩
        · rw [if_neg c3] at H
          exact absurd H (by simp)
      · rw [if_neg c2] at H
        have c2b0 : decide (x5_1 < (a0.size : Int)) = false := decide_eq_false c2
        clear c2
        by_cases c14 : 0 ≤ x4_1
        · rw [if_pos c14] at H
          have c14b0 := eq_true c14
          have c14b1 : decide (0 ≤ x4_1) = true := decide_eq_true c14
          clear c14
          by_cases c15 : x4_1 ≤ (a0.size : Int)
          · rw [if_pos c15] at H
            have c15b0 := eq_true c15
            have c15b1 : decide (x4_1 ≤ (a0.size : Int)) = true := decide_eq_true c15
            clear c15
            by_cases c16 : x3_1.length < 8796093022208
            · rw [if_pos c16] at H
              have LMc16 := Aside0.mk c16
              clear c16
              obtain ⟨y151, hy151⟩ : ∃ y_ : List ByteArray, y_ = (x3_1 ++ [a0.extract (x4_1 : Int).toNat a0.size]) := ⟨_, rfl⟩
              replace H : (some y151) = some r := by first | (rw [hy151]; with_reducible exact H) | (have H2_ := (Option.bind_some _ _).symm.trans H; rw [hy151]; with_reducible exact H2_) | (have H2_ := (Option.bind_some _ _).symm.trans H; with_reducible exact H2_) | with_reducible exact H | (rw [hy151]; exact H) | exact H
              have Ny151 := Aside0.mk hy151
              clear hy151
              obtain rfl := Option.some.inj H
              go_wp2_with (first | ((with_reducible refine gate_builtin (b := .append) (xs := #[.tmp 32, .tmp 36]) rfl ?_); at_builtin; refine Kd.R_append Kd.string (w0 := w) w.heap.size rfl (.tmp 32) (.tmp 36) 42 9 (.string ⟨#[]⟩) 16 rfl Tryz.underlying42 info9 rfl (by decide) (by omega) u3 x3_1 (a0.extract (x4_1 : Int).toNat a0.size) [.string (a0.extract (x4_1 : Int).toNat a0.size)] (fun _ => True) (fun _ => False) rfl rfl ?aP (fun _ hk => hk.elim) ?aF ?aO ?aB ?aS ?aL ?_; (case aP => exact rfl); (case aB => exact (by repeat (first | (with_reducible first | exact HB.out | apply below_alloc | apply pw_below_drewN | apply below_drew1) | exact HB.out))); (case aF => exact (fun _ _ => trivial)); (case aO => exact (by (with_reducible repeat (first | apply Kd.R_alloc | apply Kd.R_drewN | apply Kd.R_drew)); exact HO_3.out)); (case aS => exact (below_size (by repeat (first | (with_reducible first | exact HB.out | apply below_alloc | apply pw_below_drewN | apply below_drew1) | exact HB.out)))); (case aL => have := LMc16.out; omega); intro v152 w17 ho hb hg hat; rw [← Ny151.out] at ho; have n0_ := Aside0.mk (hb); have n1_ := Aside0.mk (ho); clear HB; clear HO_3; have HB := n0_; have HO153 := n1_; clear n0_ n1_; clear ho hb hg hat))
              go_ret
              exact ⟨_, by first | rfl | (simp [errW_none, errW_some]; done) | (simp [errW_none, errW_some]; exact isEmpty_nbne _) | (simp [errW_none, errW_some]; exact isEmpty_bne _) | (simp [errW_none, errW_some] <;> rfl) | (simp [*, errW_none, errW_some] <;> rfl), by (with_reducible repeat (first | apply Kd.R_alloc | apply Kd.R_drewN | apply Kd.R_drew)); exact HO153.out, by repeat (first | (with_reducible first | exact HB.out | apply below_alloc | apply pw_below_drewN | apply below_drew1) | exact HB.out)⟩
            · rw [if_neg c16] at H
              exact absurd H (by simp)
          · rw [if_neg c15] at H
            exact absurd H (by simp)
        · rw [if_neg c14] at H
          exact absurd H (by simp)
end Go.Proofs.YtieompfmhnpnaaaGreat.H
namespace Go.Proofs.YtieompfmhnpnaaaGreat.H
open Go.RowKit Go.Proofs.YtieompfmhnpnaaaGreatW.PrintWords Go.Proofs.YtieompfmhnpnaaaGreatW.PrintLast Go.Proofs.YtieompfmhnpnaaaGreatW.PrintMore
attribute [local go_sem] max2_int min2_int max_two min_two max_three min_three max_four min_four
set_option linter.unusedVariables false
set_option linter.unusedSimpArgs false
def missiveref01_White.f (a0 : Int) : Option (Bool) := if a0 = 9 then (some true) else (if a0 = 10 then (some true) else (if a0 = 13 then (some true) else (some (a0 == 32))))
set_option maxHeartbeats 8000000 in
set_option maxRecDepth 100000 in
theorem missiveref01_White.calls (a0 : Int) (r : Bool) (w : World) (h : missiveref01_White.f a0 = some r) :
    Calls Tryz.prog 78 #[.int .u8 a0] w fun e w' => e = .returned (.bool r) ∧ Drawn0 w w' := by
  have H : (if a0 = 9 then (some true) else (if a0 = 10 then (some true) else (if a0 = 13 then (some true) else (some (a0 == 32))))) = some r := h
  clear h
  by_cases c2 : a0 = 9
  · rw [if_pos c2] at H
    have c2b0 : (a0 == 9) = true := beq_iff_eq.mpr c2
    have c2b1 : (a0 != 9) = false := bne_eq_false_iff_eq.mpr c2
    clear c2
    obtain rfl := Option.some.inj H
    go_enter Tryz.func78, Tryz.ntmps78
    go_wp2
    go_ret
    exact ⟨by first | rfl | (simp; done) | (simp [*]; done), by repeat (first | exact Drawn0.refl _ | apply Drawn0.step)⟩
  · rw [if_neg c2] at H
    have c2b0 : (a0 == 9) = false := beq_eq_false_iff_ne.mpr c2
    have c2b1 : (a0 != 9) = true := bne_iff_ne.mpr c2
    by_cases c3 : a0 = 10
    · rw [if_pos c3] at H
      have c3b0 : (a0 == 10) = true := beq_iff_eq.mpr c3
      have c3b1 : (a0 != 10) = false := bne_eq_false_iff_eq.mpr c3
      clear c3
      obtain rfl := Option.some.inj H
      go_enter Tryz.func78, Tryz.ntmps78
      go_wp2
      go_ret
      exact ⟨by first | rfl | (simp; done) | (simp [*]; done), by repeat (first | exact Drawn0.refl _ | apply Drawn0.step)⟩
    · rw [if_neg c3] at H
      have c3b0 : (a0 == 10) = false := beq_eq_false_iff_ne.mpr c3
      have c3b1 : (a0 != 10) = true := bne_iff_ne.mpr c3
      by_cases c4 : a0 = 13
      · rw [if_pos c4] at H
        have c4b0 : (a0 == 13) = true := beq_iff_eq.mpr c4
        have c4b1 : (a0 != 13) = false := bne_eq_false_iff_eq.mpr c4
        clear c4
        obtain rfl := Option.some.inj H
        go_enter Tryz.func78, Tryz.ntmps78
        go_wp2
        go_ret
        exact ⟨by first | rfl | (simp; done) | (simp [*]; done), by repeat (first | exact Drawn0.refl _ | apply Drawn0.step)⟩
      · rw [if_neg c4] at H
        have c4b0 : (a0 == 13) = false := beq_eq_false_iff_ne.mpr c4
        have c4b1 : (a0 != 13) = true := bne_iff_ne.mpr c4
        obtain rfl := Option.some.inj H
        go_enter Tryz.func78, Tryz.ntmps78
        go_wp2
        go_ret
        exact ⟨by first | rfl | (simp; done) | (simp [*]; done), by repeat (first | exact Drawn0.refl _ | apply Drawn0.step)⟩
mutual
def missiveref01_Trim.j1 : Nat → ByteArray → Int → Option (ByteArray)
  | 0, _, _ => none
  | k + 1, x0, x3 => missiveref01_Trim.l1 k x0 x3 (x0.size : Int)
def missiveref01_Trim.l1 : Nat → ByteArray → Int → Int → Option (ByteArray)
  | 0, _, _, _ => none
  | k + 1, x0, x3, x4 => if x4 > x3 then (if 0 ≤ (wrap64 (x4 - 1)) then (if (wrap64 (x4 - 1)) < (x0.size : Int) then ((missiveref01_White.f (bt x0 (wrap64 (x4 - 1)))).bind fun t159 => (if t159 = true then (missiveref01_Trim.l1 k x0 x3 (wrap64 (x4 - 1))) else (if 0 ≤ x3 then (if x3 ≤ x4 then (if x4 ≤ (x0.size : Int) then (some (x0.extract (x3 : Int).toNat (x4 : Int).toNat)) else (none)) else (none)) else (none)))) else (none)) else (none)) else (if 0 ≤ x3 then (if x3 ≤ x4 then (if x4 ≤ (x0.size : Int) then (some (x0.extract (x3 : Int).toNat (x4 : Int).toNat)) else (none)) else (none)) else (none))
def missiveref01_Trim.l0 : Nat → ByteArray → Int → Option (ByteArray)
  | 0, _, _ => none
  | k + 1, x0, x3 => if x3 < (x0.size : Int) then (if 0 ≤ x3 then ((missiveref01_White.f (bt x0 x3)).bind fun t158 => (if t158 = true then (missiveref01_Trim.l0 k x0 (wrap64 (x3 + 1))) else (missiveref01_Trim.j1 k x0 x3))) else (none)) else (missiveref01_Trim.j1 k x0 x3)
end
def missiveref01_Trim.f (k : Nat) (a0 : ByteArray) : Option (ByteArray) := missiveref01_Trim.l0 k a0 0
theorem missiveref01_Trim.mono_l : ∀ k, (∀ y0 y1, LeO (missiveref01_Trim.j1 k y0 y1) (missiveref01_Trim.j1 (k + 1) y0 y1)) ∧ (∀ y0 y1 y2, LeO (missiveref01_Trim.l1 k y0 y1 y2) (missiveref01_Trim.l1 (k + 1) y0 y1 y2)) ∧ (∀ y0 y1, LeO (missiveref01_Trim.l0 k y0 y1) (missiveref01_Trim.l0 (k + 1) y0 y1))
  | 0 => ⟨fun _ _ r h => by simp [missiveref01_Trim.j1] at h, fun _ _ _ r h => by simp [missiveref01_Trim.l1] at h, fun _ _ r h => by simp [missiveref01_Trim.l0] at h⟩
  | k + 1 => by
    obtain ⟨ih0, ih1, ih2⟩ := missiveref01_Trim.mono_l k
    refine ⟨?_, ?_, ?_⟩
    · intro y0 y1
      unfold missiveref01_Trim.j1
      repeat' first
      | (with_reducible exact ih0 _ _)
      | (with_reducible exact ih1 _ _ _)
      | (with_reducible exact ih2 _ _)
      | (with_reducible exact LeO.refl _)
      | (with_reducible exact LeO.none _)
      | (with_reducible refine LeO.ite ?_ ?_)
      | (with_reducible refine LeO.bind ?_ (fun _ => ?_))
      | exact ih0 _ _
      | exact ih1 _ _ _
      | exact ih2 _ _
      | exact LeO.none _
      | refine LeO.ite ?_ ?_
      | refine LeO.bind ?_ (fun _ => ?_)
    · intro y0 y1 y2
      unfold missiveref01_Trim.l1
      repeat' first
      | (with_reducible exact ih0 _ _)
      | (with_reducible exact ih1 _ _ _)
      | (with_reducible exact ih2 _ _)
      | (with_reducible exact LeO.refl _)
      | (with_reducible exact LeO.none _)
      | (with_reducible refine LeO.ite ?_ ?_)
      | (with_reducible refine LeO.bind ?_ (fun _ => ?_))
      | exact ih0 _ _
      | exact ih1 _ _ _
      | exact ih2 _ _
      | exact LeO.none _
      | refine LeO.ite ?_ ?_
      | refine LeO.bind ?_ (fun _ => ?_)
    · intro y0 y1
      unfold missiveref01_Trim.l0
      repeat' first
      | (with_reducible exact ih0 _ _)
      | (with_reducible exact ih1 _ _ _)
      | (with_reducible exact ih2 _ _)
      | (with_reducible exact LeO.refl _)
      | (with_reducible exact LeO.none _)
      | (with_reducible refine LeO.ite ?_ ?_)
      | (with_reducible refine LeO.bind ?_ (fun _ => ?_))
      | exact ih0 _ _
      | exact ih1 _ _ _
      | exact ih2 _ _
      | exact LeO.none _
      | refine LeO.ite ?_ ?_
      | refine LeO.bind ?_ (fun _ => ?_)
theorem missiveref01_Trim.mono : ∀ a0 k, LeO (missiveref01_Trim.f k a0) (missiveref01_Trim.f (k + 1) a0) := by
  intro a0 k
  obtain ⟨ih0, ih1, ih2⟩ := missiveref01_Trim.mono_l k
  unfold missiveref01_Trim.f
  repeat' first
      | (with_reducible exact ih0 _ _)
      | (with_reducible exact ih1 _ _ _)
      | (with_reducible exact ih2 _ _)
      | (with_reducible exact LeO.refl _)
      | (with_reducible exact LeO.none _)
      | (with_reducible refine LeO.ite ?_ ?_)
      | (with_reducible refine LeO.bind ?_ (fun _ => ?_))
      | exact ih0 _ _
      | exact ih1 _ _ _
      | exact ih2 _ _
      | exact LeO.none _
      | refine LeO.ite ?_ ?_
      | refine LeO.bind ?_ (fun _ => ?_)
set_option maxHeartbeats 8000000 in
set_option maxRecDepth 100000 in
theorem missiveref01_Trim.calls (k : Nat) (a0 : ByteArray) (r : ByteArray) (w : World) (h : missiveref01_Trim.f k a0 = some r) :
    Calls Tryz.prog 45 #[.string a0] w fun e w' => e = .returned (.string r) ∧ Drawn0 w w' := by
  have H : (missiveref01_Trim.l0 k a0 0) = some r := h
  clear h
  have HC2 := Aside0.mk H
  clear H
  go_enter Tryz.func45, Tryz.ntmps45
  go_upto_block 0 with (fail)
  go_cut [3] (fun v3 wc => ∃ (kq : Nat) (x3_1 : Int), v3 = .int .i64 x3_1 ∧ Aside0 (missiveref01_Trim.j1 kq a0 x3_1 = some r) ∧ Aside0 (kq ≤ k) ∧ Drawn0 w wc)
  case first =>
    have H := HC2.out
    clear HC2
    have H' := Aside0.mk H
    clear H
    go_wp2
    go_loopg [3] k (fun kq v3 w' => ∃ (x3_1 : Int), v3 = .int .i64 x3_1 ∧ Aside0 (missiveref01_Trim.l0 kq a0 x3_1 = some r) ∧ Aside0 (kq ≤ k) ∧ Drawn0 w w')
    case atStart => exact ⟨(0), (by first | rfl | (simp; done) | (simp [*]; done)), H', ⟨Nat.le_refl _⟩, by repeat (first | exact Drawn0.refl _ | apply Drawn0.step)⟩
    case round =>
      clear H'
      try clear p2
      obtain ⟨x3_1, rfl, HA, HK1, ⟨m1, rfl⟩⟩ := hrel
      cases gk with
      | zero => exact absurd HA.out (by simp [missiveref01_Trim.l0])
      | succ k1 =>
        have H := HA.out
        clear HA
        simp only [missiveref01_Trim.l0] at H
        by_cases c3 : x3_1 < (a0.size : Int)
        · rw [if_pos c3] at H
          have c3b0 : decide (x3_1 < (a0.size : Int)) = true := decide_eq_true c3
          clear c3
          (first | rw [c3b0] | (simp only [i64_w, i32_w]; rw [c3b0]) | skip)
          by_cases c4 : 0 ≤ x3_1
          · rw [if_pos c4] at H
            have c4b0 : decide (0 ≤ x3_1) = true := decide_eq_true c4
            clear c4
            replace H := Option.bind_eq_some_iff.mp H
            obtain ⟨t158, A60, H⟩ := H
            replace H : (if t158 = true then (missiveref01_Trim.l0 k1 a0 (wrap64 (x3_1 + 1))) else (missiveref01_Trim.j1 k1 a0 x3_1)) = some r := H
            have A6 := Aside0.mk A60
            clear A60
            by_cases c7 : t158 = true
            · subst c7
              have H1 : (missiveref01_Trim.l0 k1 a0 (wrap64 (x3_1 + 1))) = some r := by rw [if_pos rfl] at H; exact H
              clear H
              have H := H1
              clear H1
              have H' := Aside0.mk H
              clear H
              have p5 : 0 ≤ (x3_1 : Int) := of_decide_eq_true (by first | (with_reducible assumption) | assumption)
              have q5 : x3_1 < (a0.size : Int) := of_decide_eq_true (by first | (with_reducible assumption) | assumption)
              have hx5 := bt_at a0 x3_1
              replace p5 := eq_true p5
              replace q5 := eq_true q5
              go_wp2_with (first | (go_at_call 78; (with_reducible refine (missiveref01_White.calls (bt a0 x3_1) true _ A6.out).mono ?_); rintro e w' ⟨rfl, ⟨nd, rfl⟩⟩))
              go_roundg k1
              case measure => have := HK1.out; omega
              case rel => exact ⟨(wrap64 (x3_1 + 1)), (by first | rfl | (simp; done) | (simp [*]; done)), H', ⟨by have := HK1.out; omega⟩, by repeat (first | exact Drawn0.refl _ | apply Drawn0.step)⟩
            · replace c7 := Bool.eq_false_iff.mpr c7
              subst c7
              have H1 : (missiveref01_Trim.j1 k1 a0 x3_1) = some r := by rw [if_neg (show ¬ (false = true) by decide)] at H; exact H
              clear H
              have H := H1
              clear H1
              have H' := Aside0.mk H
              clear H
              have p5 : 0 ≤ (x3_1 : Int) := of_decide_eq_true (by first | (with_reducible assumption) | assumption)
              have q5 : x3_1 < (a0.size : Int) := of_decide_eq_true (by first | (with_reducible assumption) | assumption)
              have hx5 := bt_at a0 x3_1
              replace p5 := eq_true p5
              replace q5 := eq_true q5
              go_wp2_with (first | (go_at_call 78; (with_reducible refine (missiveref01_White.calls (bt a0 x3_1) false _ A6.out).mono ?_); rintro e w' ⟨rfl, ⟨nd, rfl⟩⟩))
              go_meet
              case rel => exact ⟨_, (x3_1), (by first | rfl | (simp; done) | (simp [*]; done)), H', ⟨by have := HK1.out; first | omega | exact Nat.le_refl _⟩, by repeat (first | exact Drawn0.refl _ | apply Drawn0.step)⟩
          · rw [if_neg c4] at H
            exact absurd H (by simp)
        · rw [if_neg c3] at H
          have c3b0 : decide (x3_1 < (a0.size : Int)) = false := decide_eq_false c3
          clear c3
          (first | rw [c3b0] | (simp only [i64_w, i32_w]; rw [c3b0]) | skip)
          have H' := Aside0.mk H
          clear H
          go_wp2
          go_meet
          case rel => exact ⟨_, (x3_1), (by first | rfl | (simp; done) | (simp [*]; done)), H', ⟨by have := HK1.out; first | omega | exact Nat.le_refl _⟩, by repeat (first | exact Drawn0.refl _ | apply Drawn0.step)⟩
  case rest =>
    clear HC2
    try clear p2
    try clear c3
    try clear c3b0
    try clear c4
    try clear c4b0
    try clear p5
    try clear q5
    try clear hx5
    try clear p6
    try clear c7
    try clear p2
    try clear p5
    try clear q5
    obtain ⟨kq, x3_1, rfl, HA, HJ1, ⟨mc1, rfl⟩⟩ := hcut
    cases kq with
    | zero => exact absurd HA.out (by simp [missiveref01_Trim.j1])
    | succ kj1 =>
      have H := HA.out
      clear HA
      simp only [missiveref01_Trim.j1] at H
      have H' := Aside0.mk H
      clear H
      go_wp2
      go_loopg [4] kj1 (fun kq v4 w' => ∃ (x4_2 : Int), v4 = .int .i64 x4_2 ∧ Aside0 (missiveref01_Trim.l1 kq a0 x3_1 x4_2 = some r) ∧ Aside0 (kq ≤ kj1) ∧ Drawn0 w w')
      case atStart => exact ⟨((a0.size : Int)), (by first | rfl | (simp; done) | (simp [*]; done)), H', ⟨Nat.le_refl _⟩, by repeat (first | exact Drawn0.refl _ | apply Drawn0.step)⟩
      case round =>
        clear H'
        try clear c1
        try clear p2
        try clear c3
        try clear c3b0
        try clear c4
        try clear c4b0
        try clear p5
        try clear q5
        try clear hx5
        try clear p6
        try clear c7
        try clear p2
        try clear p5
        try clear p6
        try clear q5
        obtain ⟨x4_2, rfl, HA, HK2, ⟨m2, rfl⟩⟩ := hrel
        cases gk with
        | zero => exact absurd HA.out (by simp [missiveref01_Trim.l1])
        | succ k2 =>
          have H := HA.out
          clear HA
          simp only [missiveref01_Trim.l1] at H
          by_cases c8 : x4_2 > x3_1
          · rw [if_pos c8] at H
            have c8b0 : decide (x3_1 < x4_2) = true := decide_eq_true c8
            clear c8
            obtain ⟨ji9, hji9⟩ : ∃ j_ : Int, (wrap64 (x4_2 - 1)) = j_ := ⟨_, rfl⟩
            replace H : (if 0 ≤ (ji9) then (if (ji9) < (a0.size : Int) then ((missiveref01_White.f (bt a0 (ji9))).bind fun t159 => (if t159 = true then (missiveref01_Trim.l1 k2 a0 x3_1 ji9) else (if 0 ≤ x3_1 then (if x3_1 ≤ x4_2 then (if x4_2 ≤ (a0.size : Int) then (some (a0.extract (x3_1 : Int).toNat (x4_2 : Int).toNat)) else (none)) else (none)) else (none)))) else (none)) else (none)) = some r := by first | (rw [hji9] at H; exact H) | (simp only [hji9] at H ⊢; exact H)
            have hji9w : (IntKind.i64.wrap (x4_2 - 1)) = ji9 := (i64_w _).trans hji9
            by_cases c10 : 0 ≤ (ji9)
            · rw [if_pos c10] at H
              have c10b0 : decide (0 ≤ (ji9)) = true := decide_eq_true c10
              clear c10
              by_cases c11 : (ji9) < (a0.size : Int)
              · rw [if_pos c11] at H
                have c11b0 : decide ((ji9) < (a0.size : Int)) = true := decide_eq_true c11
                clear c11
                replace H := Option.bind_eq_some_iff.mp H
                obtain ⟨t159, A130, H⟩ := H
                replace H : (if t159 = true then (missiveref01_Trim.l1 k2 a0 x3_1 ji9) else (if 0 ≤ x3_1 then (if x3_1 ≤ x4_2 then (if x4_2 ≤ (a0.size : Int) then (some (a0.extract (x3_1 : Int).toNat (x4_2 : Int).toNat)) else (none)) else (none)) else (none))) = some r := H
                have A13 := Aside0.mk A130
                clear A130
                by_cases c14 : t159 = true
                · subst c14
                  have H1 : (missiveref01_Trim.l1 k2 a0 x3_1 ji9) = some r := by rw [if_pos rfl] at H; exact H
                  clear H
                  have H := H1
                  clear H1
                  have H' := Aside0.mk H
                  clear H
                  have p12 : 0 ≤ ((ji9) : Int) := of_decide_eq_true (by first | (with_reducible assumption) | assumption)
                  have q12 : (ji9) < (a0.size : Int) := of_decide_eq_true (by first | (with_reducible assumption) | assumption)
                  have hx12 := bt_at a0 (ji9)
                  replace p12 := eq_true p12
                  replace q12 := eq_true q12
                  go_wp2_with (first | (go_at_call 78; (with_reducible refine (missiveref01_White.calls (bt a0 (ji9)) true _ A13.out).mono ?_); rintro e w' ⟨rfl, ⟨nd, rfl⟩⟩))
                  go_roundg k2
                  case measure => have := HJ1.out; have := HK2.out; omega
                  case rel => exact ⟨(ji9), (by first | rfl | (simp; done) | (simp only [← hji9] <;> (first | rfl | simp)) | (simp [*]; done)), H', ⟨by have := HJ1.out; have := HK2.out; omega⟩, by repeat (first | exact Drawn0.refl _ | apply Drawn0.step)⟩
                · replace c14 := Bool.eq_false_iff.mpr c14
                  subst c14
                  have H1 : (if 0 ≤ x3_1 then (if x3_1 ≤ x4_2 then (if x4_2 ≤ (a0.size : Int) then (some (a0.extract (x3_1 : Int).toNat (x4_2 : Int).toNat)) else (none)) else (none)) else (none)) = some r := by rw [if_neg (show ¬ (false = true) by decide)] at H; exact H
                  clear H
                  have H := H1
                  clear H1
                  by_cases c15 : 0 ≤ x3_1
                  · rw [if_pos c15] at H
                    have c15b0 := eq_true c15
                    have c15b1 : decide (0 ≤ x3_1) = true := decide_eq_true c15
                    clear c15
                    by_cases c16 : x3_1 ≤ x4_2
                    · rw [if_pos c16] at H
                      have c16b0 := eq_true c16
                      have c16b1 : decide (x3_1 ≤ x4_2) = true := decide_eq_true c16
                      clear c16
                      by_cases c17 : x4_2 ≤ (a0.size : Int)
                      · rw [if_pos c17] at H
                        have c17b0 := eq_true c17
                        have c17b1 : decide (x4_2 ≤ (a0.size : Int)) = true := decide_eq_true c17
                        clear c17
                        obtain rfl := Option.some.inj H
                        have p12 : 0 ≤ ((ji9) : Int) := of_decide_eq_true (by first | (with_reducible assumption) | assumption)
                        have q12 : (ji9) < (a0.size : Int) := of_decide_eq_true (by first | (with_reducible assumption) | assumption)
                        have hx12 := bt_at a0 (ji9)
                        replace p12 := eq_true p12
                        replace q12 := eq_true q12
                        go_wp2_with (first | (go_at_call 78; (with_reducible refine (missiveref01_White.calls (bt a0 (ji9)) false _ A13.out).mono ?_); rintro e w' ⟨rfl, ⟨nd, rfl⟩⟩))
                        go_ret
                        exact ⟨by first | rfl | (simp; done) | (simp only [← hji9] <;> (first | rfl | simp)) | (simp [*]; done), by repeat (first | exact Drawn0.refl _ | apply Drawn0.step)⟩
                      · rw [if_neg c17] at H
                        exact absurd H (by simp)
                    · rw [if_neg c16] at H
                      exact absurd H (by simp)
                  · rw [if_neg c15] at H
                    exact absurd H (by simp)
              · rw [if_neg c11] at H
                exact absurd H (by simp)
            · rw [if_neg c10] at H
              exact absurd H (by simp)
          · rw [if_neg c8] at H
            have c8b0 : decide (x3_1 < x4_2) = false := decide_eq_false c8
            clear c8
            by_cases c18 : 0 ≤ x3_1
            · rw [if_pos c18] at H
              have c18b0 := eq_true c18
              have c18b1 : decide (0 ≤ x3_1) = true := decide_eq_true c18
              clear c18
              by_cases c19 : x3_1 ≤ x4_2
              · rw [if_pos c19] at H
                have c19b0 := eq_true c19
                have c19b1 : decide (x3_1 ≤ x4_2) = true := decide_eq_true c19
                clear c19
                by_cases c20 : x4_2 ≤ (a0.size : Int)
                · rw [if_pos c20] at H
                  have c20b0 := eq_true c20
                  have c20b1 : decide (x4_2 ≤ (a0.size : Int)) = true := decide_eq_true c20
                  clear c20
                  obtain rfl := Option.some.inj H
                  go_wp2
                  go_ret
                  exact ⟨by first | rfl | (simp; done) | (simp [*]; done), by repeat (first | exact Drawn0.refl _ | apply Drawn0.step)⟩
                · rw [if_neg c20] at H
                  exact absurd H (by simp)
              · rw [if_neg c19] at H
                exact absurd H (by simp)
            · rw [if_neg c18] at H
              exact absurd H (by simp)
end Go.Proofs.YtieompfmhnpnaaaGreat.H
namespace Go.Proofs.YtieompfmhnpnaaaGreat.H
open Go.RowKit Go.Proofs.YtieompfmhnpnaaaGreatW.PrintWords Go.Proofs.YtieompfmhnpnaaaGreatW.PrintLast Go.Proofs.YtieompfmhnpnaaaGreatW.PrintMore
attribute [local go_sem] max2_int min2_int max_two min_two max_three min_three max_four min_four
set_option linter.unusedVariables false
set_option linter.unusedSimpArgs false
def missiveref09_value.l0 : Nat → ByteArray → ByteArray → Int → Option (ByteArray × Bool)
  | 0, _, _, _ => none
  | k + 1, x0, x4, x5 => if x5 < (x0.size : Int) then (if 0 ≤ x5 then (if (bt x0 x5) = 34 then (some (x4, (x5 == (wrap64 ((x0.size : Int) - 1))))) else (if (bt x0 x5) = 92 then (if (wrap64 (x5 + 1)) < (x0.size : Int) then (if 0 ≤ (wrap64 (x5 + 1)) then (if (wrap64 (x5 + 1)) ≤ (wrap64 ((wrap64 (x5 + 1)) + 1)) then (if (wrap64 ((wrap64 (x5 + 1)) + 1)) ≤ (x0.size : Int) then (if x4.size + (x0.extract ((wrap64 (x5 + 1)) : Int).toNat ((wrap64 ((wrap64 (x5 + 1)) + 1)) : Int).toNat).size ≤ 9223372036854775807 then (missiveref09_value.l0 k x0 (x4 ++ (x0.extract ((wrap64 (x5 + 1)) : Int).toNat ((wrap64 ((wrap64 (x5 + 1)) + 1)) : Int).toNat)) (wrap64 ((wrap64 (x5 + 1)) + 1))) else (none)) else (none)) else (none)) else (none)) else (if x5 ≤ (wrap64 (x5 + 1)) then (if (wrap64 (x5 + 1)) ≤ (x0.size : Int) then (if x4.size + (x0.extract (x5 : Int).toNat ((wrap64 (x5 + 1)) : Int).toNat).size ≤ 9223372036854775807 then (missiveref09_value.l0 k x0 (x4 ++ (x0.extract (x5 : Int).toNat ((wrap64 (x5 + 1)) : Int).toNat)) (wrap64 (x5 + 1))) else (none)) else (none)) else (none))) else (if x5 ≤ (wrap64 (x5 + 1)) then (if (wrap64 (x5 + 1)) ≤ (x0.size : Int) then (if x4.size + (x0.extract (x5 : Int).toNat ((wrap64 (x5 + 1)) : Int).toNat).size ≤ 9223372036854775807 then (missiveref09_value.l0 k x0 (x4 ++ (x0.extract (x5 : Int).toNat ((wrap64 (x5 + 1)) : Int).toNat)) (wrap64 (x5 + 1))) else (none)) else (none)) else (none)))) else (none)) else (some ((⟨#[]⟩ : ByteArray), false))
def missiveref09_value.f (k : Nat) (a0 : ByteArray) : Option (ByteArray × Bool) := if a0.toList = ([] : List UInt8) then (some ((⟨#[]⟩ : ByteArray), false)) else (if 0 < (a0.size : Int) then (if (bt a0 0) = 34 then (missiveref09_value.l0 k a0 (⟨#[]⟩ : ByteArray) 1) else ((missiveref09_Printable.f k a0).bind fun t160 => (if t160 = true then ((missiveref09_has.f k a0 (⟨#[34]⟩ : ByteArray)).bind fun t161 => (some (a0, !t161))) else (some (a0, false))))) else (none))
theorem missiveref09_value.mono_l : ∀ k, (∀ y0 y1 y2, LeO (missiveref09_value.l0 k y0 y1 y2) (missiveref09_value.l0 (k + 1) y0 y1 y2))
  | 0 => fun _ _ _ r h => by simp [missiveref09_value.l0] at h
  | k + 1 => by
    have ih0 := missiveref09_value.mono_l k
    · intro y0 y1 y2
      unfold missiveref09_value.l0
      repeat' first
      | (with_reducible exact ih0 _ _ _)
      | (with_reducible exact missiveref09_Printable.mono _ _)
      | (with_reducible exact missiveref09_has.mono _ _ _)
      | (with_reducible exact LeO.refl _)
      | (with_reducible exact LeO.none _)
      | (with_reducible refine LeO.ite ?_ ?_)
      | (with_reducible refine LeO.bind ?_ (fun _ => ?_))
      | exact ih0 _ _ _
      | exact missiveref09_Printable.mono _ _
      | exact missiveref09_has.mono _ _ _
      | exact LeO.none _
      | refine LeO.ite ?_ ?_
      | refine LeO.bind ?_ (fun _ => ?_)
theorem missiveref09_value.mono : ∀ a0 k, LeO (missiveref09_value.f k a0) (missiveref09_value.f (k + 1) a0) := by
  intro a0 k
  have ih0 := missiveref09_value.mono_l k
  unfold missiveref09_value.f
  repeat' first
      | (with_reducible exact ih0 _ _ _)
      | (with_reducible exact missiveref09_Printable.mono _ _)
      | (with_reducible exact missiveref09_has.mono _ _ _)
      | (with_reducible exact LeO.refl _)
      | (with_reducible exact LeO.none _)
      | (with_reducible refine LeO.ite ?_ ?_)
      | (with_reducible refine LeO.bind ?_ (fun _ => ?_))
      | exact ih0 _ _ _
      | exact missiveref09_Printable.mono _ _
      | exact missiveref09_has.mono _ _ _
      | exact LeO.none _
      | refine LeO.ite ?_ ?_
      | refine LeO.bind ?_ (fun _ => ?_)
set_option maxHeartbeats 8000000 in
set_option maxRecDepth 100000 in
theorem missiveref09_value.calls (k : Nat) (a0 : ByteArray) (r1 : ByteArray) (r2 : Bool) (w : World) (h : missiveref09_value.f k a0 = some (r1, r2)) :
    Calls Tryz.prog 46 #[.string a0] w fun e w' => e = .returned (.tuple #[.string r1, .bool r2]) ∧ Drawn0 w w' := by
  have H : (if a0.toList = ([] : List UInt8) then (some ((⟨#[]⟩ : ByteArray), false)) else (if 0 < (a0.size : Int) then (if (bt a0 0) = 34 then (missiveref09_value.l0 k a0 (⟨#[]⟩ : ByteArray) 1) else ((missiveref09_Printable.f k a0).bind fun t160 => (if t160 = true then ((missiveref09_has.f k a0 (⟨#[34]⟩ : ByteArray)).bind fun t161 => (some (a0, !t161))) else (some (a0, false))))) else (none))) = some (r1, r2) := h
  clear h
  by_cases c2 : a0.toList = ([] : List UInt8)
  · rw [if_pos c2] at H
    have c2b0 : (a0.toList == ([] : List UInt8)) = true := beq_iff_eq.mpr c2
    have c2b1 : (a0.toList != ([] : List UInt8)) = false := bne_eq_false_iff_eq.mpr c2
    clear c2
    simp only [Option.some.injEq, Prod.mk.injEq] at H
    obtain ⟨rfl, rfl⟩ := H
    go_enter Tryz.func46, Tryz.ntmps46
    go_wp2
    go_ret2
    exact ⟨by first | rfl | (simp; done) | (simp [*]; done), by repeat (first | exact Drawn0.refl _ | apply Drawn0.step)⟩
  · rw [if_neg c2] at H
    have c2b0 : (a0.toList == ([] : List UInt8)) = false := beq_eq_false_iff_ne.mpr c2
    have c2b1 : (a0.toList != ([] : List UInt8)) = true := bne_iff_ne.mpr c2
    by_cases c3 : 0 < (a0.size : Int)
    · rw [if_pos c3] at H
      have c3b0 : decide (0 < (a0.size : Int)) = true := decide_eq_true c3
      have c3b1 : decide (0 < a0.size) = true := decide_eq_true (by omega)
      clear c3
      by_cases c5 : (bt a0 0) = 34
      · rw [if_pos c5] at H
        have c5b0 : ((bt a0 0) == 34) = true := beq_iff_eq.mpr c5
        have c5b1 : ((bt a0 0) != 34) = false := bne_eq_false_iff_eq.mpr c5
        clear c5
        have H' := Aside0.mk H
        clear H
        have p4 : 0 ≤ (0 : Int) := (by omega)
        have q4 : 0 < a0.size := (by have : (0 : Int) < (a0.size : Int) := of_decide_eq_true (by first | (with_reducible assumption) | assumption); omega)
        have hx4 : ∀ h : 0 < a0.size, ((a0[0]'h).toNat : Int) = bt a0 0 := bt_at a0 0
        clear p4
        have qi4 : (0 < (a0.size : Int)) = True := eq_true (of_decide_eq_true (by first | (with_reducible assumption) | assumption))
        replace q4 := eq_true q4
        go_enter Tryz.func46, Tryz.ntmps46
        go_wp2
        go_loopg [4, 5] k (fun kq v4 v5 w' => ∃ (x4_1 : ByteArray) (x5_1 : Int), v4 = .string x4_1 ∧ v5 = .int .i64 x5_1 ∧ Aside0 (missiveref09_value.l0 kq a0 x4_1 x5_1 = some (r1, r2)) ∧ Aside0 (kq ≤ k) ∧ Drawn0 w w')
        case atStart => exact ⟨((⟨#[]⟩ : ByteArray)), (1), (by first | rfl | (simp; done) | (simp [*]; done)), (by first | rfl | (simp; done) | (simp [*]; done)), H', ⟨Nat.le_refl _⟩, by repeat (first | exact Drawn0.refl _ | apply Drawn0.step)⟩
        case round =>
          clear H'
          try clear c2
          try clear c2b0
          try clear c2b1
          try clear p2
          try clear c3
          try clear c3b0
          try clear c3b1
          try clear c4
          try clear p4
          try clear q4
          try clear hx4
          try clear qi4
          try clear c5
          try clear c5b0
          try clear c5b1
          try clear p4
          try clear q4
          obtain ⟨x4_1, x5_1, rfl, rfl, HA, HK1, ⟨m1, rfl⟩⟩ := hrel
          cases gk with
          | zero => exact absurd HA.out (by simp [missiveref09_value.l0])
          | succ k1 =>
            have H := HA.out
            clear HA
            simp only [missiveref09_value.l0] at H
            by_cases c6 : x5_1 < (a0.size : Int)
            · rw [if_pos c6] at H
              have c6b0 : decide (x5_1 < (a0.size : Int)) = true := decide_eq_true c6
              clear c6
              by_cases c7 : 0 ≤ x5_1
              · rw [if_pos c7] at H
                have c7b0 : decide (0 ≤ x5_1) = true := decide_eq_true c7
                clear c7
                by_cases c9 : (bt a0 x5_1) = 34
                · rw [if_pos c9] at H
                  have c9b0 : ((bt a0 x5_1) == 34) = true := beq_iff_eq.mpr c9
                  have c9b1 : ((bt a0 x5_1) != 34) = false := bne_eq_false_iff_eq.mpr c9
                  clear c9
                  simp only [Option.some.injEq, Prod.mk.injEq] at H
                  obtain ⟨rfl, rfl⟩ := H
                  have p8 : 0 ≤ (x5_1 : Int) := of_decide_eq_true (by first | (with_reducible assumption) | assumption)
                  have q8 : x5_1 < (a0.size : Int) := of_decide_eq_true (by first | (with_reducible assumption) | assumption)
                  have hx8 := bt_at a0 x5_1
                  replace p8 := eq_true p8
                  replace q8 := eq_true q8
                  go_wp2
                  go_ret2
                  exact ⟨by first | rfl | (simp; done) | (simp [*]; done), by repeat (first | exact Drawn0.refl _ | apply Drawn0.step)⟩
                · rw [if_neg c9] at H
                  have c9b0 : ((bt a0 x5_1) == 34) = false := beq_eq_false_iff_ne.mpr c9
                  have c9b1 : ((bt a0 x5_1) != 34) = true := bne_iff_ne.mpr c9
                  by_cases c11 : (bt a0 x5_1) = 92
                  · rw [if_pos c11] at H
                    have c11b0 : ((bt a0 x5_1) == 92) = true := beq_iff_eq.mpr c11
                    have c11b1 : ((bt a0 x5_1) != 92) = false := bne_eq_false_iff_eq.mpr c11
                    clear c11
                    by_cases c12 : (wrap64 (x5_1 + 1)) < (a0.size : Int)
                    · rw [if_pos c12] at H
                      have c12b0 : decide ((wrap64 (x5_1 + 1)) < (a0.size : Int)) = true := decide_eq_true c12
                      clear c12
                      obtain ⟨ji13, hji13⟩ : ∃ j_ : Int, (wrap64 (x5_1 + 1)) = j_ := ⟨_, rfl⟩
                      replace H : (if 0 ≤ (ji13) then (if (ji13) ≤ (wrap64 ((ji13) + 1)) then (if (wrap64 ((ji13) + 1)) ≤ (a0.size : Int) then (if x4_1.size + (a0.extract ((ji13) : Int).toNat ((wrap64 ((ji13) + 1)) : Int).toNat).size ≤ 9223372036854775807 then (missiveref09_value.l0 k1 a0 (x4_1 ++ (a0.extract ((ji13) : Int).toNat ((wrap64 ((ji13) + 1)) : Int).toNat)) (wrap64 ((ji13) + 1))) else (none)) else (none)) else (none)) else (none)) = some (r1, r2) := by first | (rw [hji13] at H; exact H) | (simp only [hji13] at H ⊢; exact H)
                      (try rw [hji13] at c12b0)
                      have hji13w : (IntKind.i64.wrap (x5_1 + 1)) = ji13 := (i64_w _).trans hji13
                      by_cases c14 : 0 ≤ (ji13)
                      · rw [if_pos c14] at H
                        have c14b0 := eq_true c14
                        have c14b1 : decide (0 ≤ (ji13)) = true := decide_eq_true c14
                        clear c14
                        by_cases c15 : (ji13) ≤ (wrap64 ((ji13) + 1))
                        · rw [if_pos c15] at H
                          have c15b0 := eq_true c15
                          have c15b1 : decide ((ji13) ≤ (wrap64 ((ji13) + 1))) = true := decide_eq_true c15
                          by_cases c16 : (wrap64 ((ji13) + 1)) ≤ (a0.size : Int)
                          · rw [if_pos c16] at H
                            have c16b0 := eq_true c16
                            have c16b1 : decide ((wrap64 ((ji13) + 1)) ≤ (a0.size : Int)) = true := decide_eq_true c16
                            by_cases c17 : x4_1.size + (a0.extract ((ji13) : Int).toNat ((wrap64 ((ji13) + 1)) : Int).toNat).size ≤ 9223372036854775807
                            · rw [if_pos c17] at H
                              have c17b0 := eq_true c17
                              have c17b1 : decide (x4_1.size + (a0.extract ((ji13) : Int).toNat ((wrap64 ((ji13) + 1)) : Int).toNat).size ≤ 9223372036854775807) = true := decide_eq_true c17
                              try have c17b2 : (9223372036854775807 < x4_1.size + (a0.extract ((ji13) : Int).toNat ((wrap64 ((ji13) + 1)) : Int).toNat).size) = False := eq_false (Nat.not_lt.2 c17)
                              have H' := Aside0.mk H
                              clear H
                              have p8 : 0 ≤ (x5_1 : Int) := of_decide_eq_true (by first | (with_reducible assumption) | assumption)
                              have q8 : x5_1 < (a0.size : Int) := of_decide_eq_true (by first | (with_reducible assumption) | assumption)
                              have hx8 := bt_at a0 x5_1
                              replace p8 := eq_true p8
                              replace q8 := eq_true q8
                              have p10 : 0 ≤ (x5_1 : Int) := of_decide_eq_true (by first | (with_reducible assumption) | assumption)
                              have q10 : x5_1 < (a0.size : Int) := of_decide_eq_true (by first | (with_reducible assumption) | assumption)
                              have hx10 := bt_at a0 x5_1
                              replace p10 := eq_true p10
                              replace q10 := eq_true q10
                              go_wp2
                              go_roundg k1
                              case measure => have := HK1.out; omega
                              case rel => exact ⟨(x4_1 ++ (a0.extract ((ji13) : Int).toNat ((wrap64 ((ji13) + 1)) : Int).toNat)), (wrap64 ((ji13) + 1)), (by first | rfl | (simp; done) | (simp only [← hji13] <;> (first | rfl | simp)) | (simp [*]; done)), (by first | rfl | (simp; done) | (simp only [← hji13] <;> (first | rfl | simp)) | (simp [*]; done)), H', ⟨by have := HK1.out; omega⟩, by repeat (first | exact Drawn0.refl _ | apply Drawn0.step)⟩
                            · rw [if_neg c17] at H
                              exact absurd H (by simp)
                          · rw [if_neg c16] at H
                            exact absurd H (by simp)
                        · rw [if_neg c15] at H
                          exact absurd H (by simp)
                      · rw [if_neg c14] at H
                        exact absurd H (by simp)
                    · rw [if_neg c12] at H
                      have c12b0 : decide ((wrap64 (x5_1 + 1)) < (a0.size : Int)) = false := decide_eq_false c12
                      clear c12
                      have c18b0 := eq_true (of_decide_eq_true (by first | (with_reducible assumption) | assumption) : 0 ≤ x5_1)
                      by_cases c19 : x5_1 ≤ (wrap64 (x5_1 + 1))
                      · rw [if_pos c19] at H
                        have c19b0 := eq_true c19
                        have c19b1 : decide (x5_1 ≤ (wrap64 (x5_1 + 1))) = true := decide_eq_true c19
                        by_cases c20 : (wrap64 (x5_1 + 1)) ≤ (a0.size : Int)
                        · rw [if_pos c20] at H
                          have c20b0 := eq_true c20
                          have c20b1 : decide ((wrap64 (x5_1 + 1)) ≤ (a0.size : Int)) = true := decide_eq_true c20
                          by_cases c21 : x4_1.size + (a0.extract (x5_1 : Int).toNat ((wrap64 (x5_1 + 1)) : Int).toNat).size ≤ 9223372036854775807
                          · rw [if_pos c21] at H
                            have c21b0 := eq_true c21
                            have c21b1 : decide (x4_1.size + (a0.extract (x5_1 : Int).toNat ((wrap64 (x5_1 + 1)) : Int).toNat).size ≤ 9223372036854775807) = true := decide_eq_true c21
                            try have c21b2 : (9223372036854775807 < x4_1.size + (a0.extract (x5_1 : Int).toNat ((wrap64 (x5_1 + 1)) : Int).toNat).size) = False := eq_false (Nat.not_lt.2 c21)
                            have H' := Aside0.mk H
                            clear H
                            have p8 : 0 ≤ (x5_1 : Int) := of_decide_eq_true (by first | (with_reducible assumption) | assumption)
                            have q8 : x5_1 < (a0.size : Int) := of_decide_eq_true (by first | (with_reducible assumption) | assumption)
                            have hx8 := bt_at a0 x5_1
                            replace p8 := eq_true p8
                            replace q8 := eq_true q8
                            have p10 : 0 ≤ (x5_1 : Int) := of_decide_eq_true (by first | (with_reducible assumption) | assumption)
                            have q10 : x5_1 < (a0.size : Int) := of_decide_eq_true (by first | (with_reducible assumption) | assumption)
                            have hx10 := bt_at a0 x5_1
                            replace p10 := eq_true p10
                            replace q10 := eq_true q10
                            go_wp2
                            go_roundg k1
                            case measure => have := HK1.out; omega
                            case rel => exact ⟨(x4_1 ++ (a0.extract (x5_1 : Int).toNat ((wrap64 (x5_1 + 1)) : Int).toNat)), (wrap64 (x5_1 + 1)), (by first | rfl | (simp; done) | (simp [*]; done)), (by first | rfl | (simp; done) | (simp [*]; done)), H', ⟨by have := HK1.out; omega⟩, by repeat (first | exact Drawn0.refl _ | apply Drawn0.step)⟩
                          · rw [if_neg c21] at H
                            exact absurd H (by simp)
                        · rw [if_neg c20] at H
                          exact absurd H (by simp)
                      · rw [if_neg c19] at H
                        exact absurd H (by simp)
                  · rw [if_neg c11] at H
                    have c11b0 : ((bt a0 x5_1) == 92) = false := beq_eq_false_iff_ne.mpr c11
                    have c11b1 : ((bt a0 x5_1) != 92) = true := bne_iff_ne.mpr c11
                    have c22b0 := eq_true (of_decide_eq_true (by first | (with_reducible assumption) | assumption) : 0 ≤ x5_1)
                    by_cases c23 : x5_1 ≤ (wrap64 (x5_1 + 1))
                    · rw [if_pos c23] at H
                      have c23b0 := eq_true c23
                      have c23b1 : decide (x5_1 ≤ (wrap64 (x5_1 + 1))) = true := decide_eq_true c23
                      by_cases c24 : (wrap64 (x5_1 + 1)) ≤ (a0.size : Int)
                      · rw [if_pos c24] at H
                        have c24b0 := eq_true c24
                        have c24b1 : decide ((wrap64 (x5_1 + 1)) ≤ (a0.size : Int)) = true := decide_eq_true c24
                        by_cases c25 : x4_1.size + (a0.extract (x5_1 : Int).toNat ((wrap64 (x5_1 + 1)) : Int).toNat).size ≤ 9223372036854775807
                        · rw [if_pos c25] at H
                          have c25b0 := eq_true c25
                          have c25b1 : decide (x4_1.size + (a0.extract (x5_1 : Int).toNat ((wrap64 (x5_1 + 1)) : Int).toNat).size ≤ 9223372036854775807) = true := decide_eq_true c25
                          try have c25b2 : (9223372036854775807 < x4_1.size + (a0.extract (x5_1 : Int).toNat ((wrap64 (x5_1 + 1)) : Int).toNat).size) = False := eq_false (Nat.not_lt.2 c25)
                          have H' := Aside0.mk H
                          clear H
                          have p8 : 0 ≤ (x5_1 : Int) := of_decide_eq_true (by first | (with_reducible assumption) | assumption)
                          have q8 : x5_1 < (a0.size : Int) := of_decide_eq_true (by first | (with_reducible assumption) | assumption)
                          have hx8 := bt_at a0 x5_1
                          replace p8 := eq_true p8
                          replace q8 := eq_true q8
                          have p10 : 0 ≤ (x5_1 : Int) := of_decide_eq_true (by first | (with_reducible assumption) | assumption)
                          have q10 : x5_1 < (a0.size : Int) := of_decide_eq_true (by first | (with_reducible assumption) | assumption)
                          have hx10 := bt_at a0 x5_1
                          replace p10 := eq_true p10
                          replace q10 := eq_true q10
                          go_wp2
                          go_roundg k1
                          case measure => have := HK1.out; omega
                          case rel => exact ⟨(x4_1 ++ (a0.extract (x5_1 : Int).toNat ((wrap64 (x5_1 + 1)) : Int).toNat)), (wrap64 (x5_1 + 1)), (by first | rfl | (simp; done) | (simp [*]; done)), (by first | rfl | (simp; done) | (simp [*]; done)), H', ⟨by have := HK1.out; omega⟩, by repeat (first | exact Drawn0.refl _ | apply Drawn0.step)⟩
                        · rw [if_neg c25] at H
                          exact absurd H (by simp)
                      · rw [if_neg c24] at H
                        exact absurd H (by simp)
                    · rw [if_neg c23] at H
                      exact absurd H (by simp)
              · rw [if_neg c7] at H
                exact absurd H (by simp)
            · rw [if_neg c6] at H
              have c6b0 : decide (x5_1 < (a0.size : Int)) = false := decide_eq_false c6
              clear c6
              simp only [Option.some.injEq, Prod.mk.injEq] at H
              obtain ⟨rfl, rfl⟩ := H
              go_wp2
              go_ret2
              exact ⟨by first | rfl | (simp; done) | (simp [*]; done), by repeat (first | exact Drawn0.refl _ | apply Drawn0.step)⟩
      · rw [if_neg c5] at H
        have c5b0 : ((bt a0 0) == 34) = false := beq_eq_false_iff_ne.mpr c5
        have c5b1 : ((bt a0 0) != 34) = true := bne_iff_ne.mpr c5
        replace H := Option.bind_eq_some_iff.mp H
        obtain ⟨t160, A260, H⟩ := H
        replace H : (if t160 = true then ((missiveref09_has.f k a0 (⟨#[34]⟩ : ByteArray)).bind fun t161 => (some (a0, !t161))) else (some (a0, false))) = some (r1, r2) := H
        have A26 := Aside0.mk A260
        clear A260
        by_cases c27 : t160 = true
        · subst c27
          have H1 : ((missiveref09_has.f k a0 (⟨#[34]⟩ : ByteArray)).bind fun t161 => (some (a0, !t161))) = some (r1, r2) := by rw [if_pos rfl] at H; exact H
          clear H
          have H := H1
          clear H1
          replace H := Option.bind_eq_some_iff.mp H
          obtain ⟨t161, A280, H⟩ := H
          replace H : (some (a0, !t161)) = some (r1, r2) := H
          have A28 := Aside0.mk A280
          clear A280
          simp only [Option.some.injEq, Prod.mk.injEq] at H
          obtain ⟨rfl, rfl⟩ := H
          have p4 : 0 ≤ (0 : Int) := (by omega)
          have q4 : 0 < a0.size := (by have : (0 : Int) < (a0.size : Int) := of_decide_eq_true (by first | (with_reducible assumption) | assumption); omega)
          have hx4 : ∀ h : 0 < a0.size, ((a0[0]'h).toNat : Int) = bt a0 0 := bt_at a0 0
          clear p4
          have qi4 : (0 < (a0.size : Int)) = True := eq_true (of_decide_eq_true (by first | (with_reducible assumption) | assumption))
          replace q4 := eq_true q4
          go_enter Tryz.func46, Tryz.ntmps46
          go_wp2_with (first | ((with_reducible refine gate_callee (f := 47) rfl ?_); refine goesL_ (some 13) rfl rfl Tryz.func47 (by kernel_rfl) rfl #[.string a0] rfl (by (try simp only [List.map_toArray, List.map_cons, List.map_nil]); first | done | rfl | (simp only [List.length_drop, List.length_take]; rfl)) ?_; (with_reducible refine (missiveref09_Printable.calls k a0 true _ A26.out).mono ?_); rintro e w' ⟨rfl, ⟨nd, rfl⟩⟩; refine ⟨_, rfl, ?_⟩) | (go_at_call 48; (with_reducible refine (missiveref09_has.calls k a0 (⟨#[34]⟩ : ByteArray) t161 _ A28.out).mono ?_); rintro e w' ⟨rfl, ⟨nd, rfl⟩⟩))
          go_ret2
          exact ⟨by first | rfl | (simp; done) | (simp [*]; done), by repeat (first | exact Drawn0.refl _ | apply Drawn0.step)⟩
        · replace c27 := Bool.eq_false_iff.mpr c27
          subst c27
          have H1 : (some (a0, false)) = some (r1, r2) := by rw [if_neg (show ¬ (false = true) by decide)] at H; exact H
          clear H
          have H := H1
          clear H1
          simp only [Option.some.injEq, Prod.mk.injEq] at H
          obtain ⟨rfl, rfl⟩ := H
          have p4 : 0 ≤ (0 : Int) := (by omega)
          have q4 : 0 < a0.size := (by have : (0 : Int) < (a0.size : Int) := of_decide_eq_true (by first | (with_reducible assumption) | assumption); omega)
          have hx4 : ∀ h : 0 < a0.size, ((a0[0]'h).toNat : Int) = bt a0 0 := bt_at a0 0
          clear p4
          have qi4 : (0 < (a0.size : Int)) = True := eq_true (of_decide_eq_true (by first | (with_reducible assumption) | assumption))
          replace q4 := eq_true q4
          go_enter Tryz.func46, Tryz.ntmps46
          go_wp2_with (first | ((with_reducible refine gate_callee (f := 47) rfl ?_); refine goesL_ (some 13) rfl rfl Tryz.func47 (by kernel_rfl) rfl #[.string a0] rfl (by (try simp only [List.map_toArray, List.map_cons, List.map_nil]); first | done | rfl | (simp only [List.length_drop, List.length_take]; rfl)) ?_; (with_reducible refine (missiveref09_Printable.calls k a0 false _ A26.out).mono ?_); rintro e w' ⟨rfl, ⟨nd, rfl⟩⟩; refine ⟨_, rfl, ?_⟩))
          go_ret2
          exact ⟨by first | rfl | (simp; done) | (simp [*]; done), by repeat (first | exact Drawn0.refl _ | apply Drawn0.step)⟩
    · rw [if_neg c3] at H
      exact absurd H (by simp)
end Go.Proofs.YtieompfmhnpnaaaGreat.H
namespace Go.Proofs.YtieompfmhnpnaaaGreat.H
open Go.RowKit Go.Proofs.YtieompfmhnpnaaaGreatW.PrintWords Go.Proofs.YtieompfmhnpnaaaGreatW.PrintLast Go.Proofs.YtieompfmhnpnaaaGreatW.PrintMore
attribute [local go_sem] max2_int min2_int max_two min_two max_three min_three max_four min_four
set_option linter.unusedVariables false
set_option linter.unusedSimpArgs false
mutual
def missiveref09_Quote.l0 : Nat → List (S25) → ByteArray → Int → Option (ByteArray)
  | 0, _, _, _ => none
  | k + 1, x1, x5, x6 => if x6 < (x1.length : Int) then (if 0 ≤ x6 then ((missiveref09_Token.f k ((rd_T25 x1 x6).f0)).bind fun t184 => (if t184 = true then (if x5.size + 2 ≤ 9223372036854775807 then (if (x5 ++ (⟨#[59, 32]⟩ : ByteArray)).size + ((rd_T25 x1 x6).f0).size ≤ 9223372036854775807 then (if ((x5 ++ (⟨#[59, 32]⟩ : ByteArray)) ++ ((rd_T25 x1 x6).f0)).size + 1 ≤ 9223372036854775807 then ((missiveref09_Token.f k ((rd_T25 x1 x6).f1)).bind fun t185 => (if t185 = true then (if (((x5 ++ (⟨#[59, 32]⟩ : ByteArray)) ++ ((rd_T25 x1 x6).f0)) ++ (⟨#[61]⟩ : ByteArray)).size + ((rd_T25 x1 x6).f1).size ≤ 9223372036854775807 then (missiveref09_Quote.l0 k x1 ((((x5 ++ (⟨#[59, 32]⟩ : ByteArray)) ++ ((rd_T25 x1 x6).f0)) ++ (⟨#[61]⟩ : ByteArray)) ++ ((rd_T25 x1 x6).f1)) (wrap64 (x6 + 1))) else (none)) else (if (((x5 ++ (⟨#[59, 32]⟩ : ByteArray)) ++ ((rd_T25 x1 x6).f0)) ++ (⟨#[61]⟩ : ByteArray)).size + 1 ≤ 9223372036854775807 then (missiveref09_Quote.l1 k x1 ((((x5 ++ (⟨#[59, 32]⟩ : ByteArray)) ++ ((rd_T25 x1 x6).f0)) ++ (⟨#[61]⟩ : ByteArray)) ++ (⟨#[34]⟩ : ByteArray)) x6 0 ((rd_T25 x1 x6).f0) ((rd_T25 x1 x6).f1)) else (none)))) else (none)) else (none)) else (none)) else (missiveref09_Quote.l0 k x1 x5 (wrap64 (x6 + 1))))) else (none)) else (some x5)
def missiveref09_Quote.l1 : Nat → List (S25) → ByteArray → Int → Int → ByteArray → ByteArray → Option (ByteArray)
  | 0, _, _, _, _, _, _ => none
  | k + 1, x1, x5, x6, x8, x184000, x184001 => if x8 < (x184001.size : Int) then (if 0 ≤ x8 then (if (bt x184001 x8) = 34 then (if x5.size + 1 ≤ 9223372036854775807 then (if x8 ≤ (wrap64 (x8 + 1)) then (if (wrap64 (x8 + 1)) ≤ (x184001.size : Int) then (if (x5 ++ (⟨#[92]⟩ : ByteArray)).size + (x184001.extract (x8 : Int).toNat ((wrap64 (x8 + 1)) : Int).toNat).size ≤ 9223372036854775807 then (missiveref09_Quote.l1 k x1 ((x5 ++ (⟨#[92]⟩ : ByteArray)) ++ (x184001.extract (x8 : Int).toNat ((wrap64 (x8 + 1)) : Int).toNat)) x6 (wrap64 (x8 + 1)) x184000 x184001) else (none)) else (none)) else (none)) else (none)) else (if (bt x184001 x8) = 92 then (if x5.size + 1 ≤ 9223372036854775807 then (if x8 ≤ (wrap64 (x8 + 1)) then (if (wrap64 (x8 + 1)) ≤ (x184001.size : Int) then (if (x5 ++ (⟨#[92]⟩ : ByteArray)).size + (x184001.extract (x8 : Int).toNat ((wrap64 (x8 + 1)) : Int).toNat).size ≤ 9223372036854775807 then (missiveref09_Quote.l1 k x1 ((x5 ++ (⟨#[92]⟩ : ByteArray)) ++ (x184001.extract (x8 : Int).toNat ((wrap64 (x8 + 1)) : Int).toNat)) x6 (wrap64 (x8 + 1)) x184000 x184001) else (none)) else (none)) else (none)) else (none)) else (if x8 ≤ (wrap64 (x8 + 1)) then (if (wrap64 (x8 + 1)) ≤ (x184001.size : Int) then (if x5.size + (x184001.extract (x8 : Int).toNat ((wrap64 (x8 + 1)) : Int).toNat).size ≤ 9223372036854775807 then (missiveref09_Quote.l1 k x1 (x5 ++ (x184001.extract (x8 : Int).toNat ((wrap64 (x8 + 1)) : Int).toNat)) x6 (wrap64 (x8 + 1)) x184000 x184001) else (none)) else (none)) else (none)))) else (none)) else (if x5.size + 1 ≤ 9223372036854775807 then (missiveref09_Quote.l0 k x1 (x5 ++ (⟨#[34]⟩ : ByteArray)) (wrap64 (x6 + 1))) else (none))
end
def missiveref09_Quote.f (k : Nat) (a0 : ByteArray) (l1 : List (S25)) : Option (ByteArray) := missiveref09_Quote.l0 k l1 a0 0
theorem missiveref09_Quote.mono_l : ∀ k, (∀ y0 y1 y2, LeO (missiveref09_Quote.l0 k y0 y1 y2) (missiveref09_Quote.l0 (k + 1) y0 y1 y2)) ∧ (∀ y0 y1 y2 y3 y4 y5, LeO (missiveref09_Quote.l1 k y0 y1 y2 y3 y4 y5) (missiveref09_Quote.l1 (k + 1) y0 y1 y2 y3 y4 y5))
  | 0 => ⟨fun _ _ _ r h => by simp [missiveref09_Quote.l0] at h, fun _ _ _ _ _ _ r h => by simp [missiveref09_Quote.l1] at h⟩
  | k + 1 => by
    obtain ⟨ih0, ih1⟩ := missiveref09_Quote.mono_l k
    refine ⟨?_, ?_⟩
    · intro y0 y1 y2
      unfold missiveref09_Quote.l0
      repeat' first
      | (with_reducible exact ih0 _ _ _)
      | (with_reducible exact ih1 _ _ _ _ _ _)
      | (with_reducible exact missiveref09_Token.mono _ _)
      | (with_reducible exact LeO.refl _)
      | (with_reducible exact LeO.none _)
      | (with_reducible refine LeO.ite ?_ ?_)
      | (with_reducible refine LeO.bind ?_ (fun _ => ?_))
      | exact ih0 _ _ _
      | exact ih1 _ _ _ _ _ _
      | exact missiveref09_Token.mono _ _
      | exact LeO.none _
      | refine LeO.ite ?_ ?_
      | refine LeO.bind ?_ (fun _ => ?_)
    · intro y0 y1 y2 y3 y4 y5
      unfold missiveref09_Quote.l1
      repeat' first
      | (with_reducible exact ih0 _ _ _)
      | (with_reducible exact ih1 _ _ _ _ _ _)
      | (with_reducible exact missiveref09_Token.mono _ _)
      | (with_reducible exact LeO.refl _)
      | (with_reducible exact LeO.none _)
      | (with_reducible refine LeO.ite ?_ ?_)
      | (with_reducible refine LeO.bind ?_ (fun _ => ?_))
      | exact ih0 _ _ _
      | exact ih1 _ _ _ _ _ _
      | exact missiveref09_Token.mono _ _
      | exact LeO.none _
      | refine LeO.ite ?_ ?_
      | refine LeO.bind ?_ (fun _ => ?_)
theorem missiveref09_Quote.mono : ∀ a0 a1 k, LeO (missiveref09_Quote.f k a0 a1) (missiveref09_Quote.f (k + 1) a0 a1) := by
  intro a0 a1 k
  obtain ⟨ih0, ih1⟩ := missiveref09_Quote.mono_l k
  unfold missiveref09_Quote.f
  repeat' first
      | (with_reducible exact ih0 _ _ _)
      | (with_reducible exact ih1 _ _ _ _ _ _)
      | (with_reducible exact missiveref09_Token.mono _ _)
      | (with_reducible exact LeO.refl _)
      | (with_reducible exact LeO.none _)
      | (with_reducible refine LeO.ite ?_ ?_)
      | (with_reducible refine LeO.bind ?_ (fun _ => ?_))
      | exact ih0 _ _ _
      | exact ih1 _ _ _ _ _ _
      | exact missiveref09_Token.mono _ _
      | exact LeO.none _
      | refine LeO.ite ?_ ?_
      | refine LeO.bind ?_ (fun _ => ?_)
set_option maxHeartbeats 8000000 in
set_option maxRecDepth 100000 in
theorem missiveref09_Quote.calls (k : Nat) (a0 : ByteArray) (A1 : Option Addr) (c1 : Nat) (l1 : List (S25)) (r : ByteArray) (w : World) (hr1 : Kd.C k25 w A1 l1.length l1) (hc1 : l1.length ≤ c1) (h : missiveref09_Quote.f k a0 l1 = some r) :
    Calls Tryz.prog 17 #[.string a0, .slice A1 l1.length c1] w fun e w' => e = .returned (.string r) ∧ Below w.heap.size w w' := by
  have hu25 := Tryz.underlying25
  have HR1 := Aside0.mk hr1
  have HC1 := Aside0.mk hc1
  clear hr1 hc1
  have HB := Aside0.mk (Below.refl w.heap.size w)
  have H : (missiveref09_Quote.l0 k l1 a0 0) = some r := h
  clear h
  have H' := Aside0.mk H
  clear H
  go_enter Tryz.func17, Tryz.ntmps17
  go_wp2
  go_loopg [5, 6] k (fun kq v5 v6 w' => ∃ (x5_1 : ByteArray) (x6_1 : Int), v5 = .string x5_1 ∧ v6 = .int .i64 x6_1 ∧ Aside0 (missiveref09_Quote.l0 kq l1 x5_1 x6_1 = some r) ∧ Aside0 (kq ≤ k) ∧ Aside0 (Below w.heap.size w w'))
  case atStart => exact ⟨(a0), (0), (by first | rfl | (simp; done) | (simp [*]; done)), (by first | rfl | (simp; done) | (simp [*]; done)), H', ⟨Nat.le_refl _⟩, ⟨by repeat (first | (with_reducible first | exact HB.out | apply below_alloc | apply pw_below_drewN | apply below_drew1) | exact HB.out)⟩⟩
  case round =>
    clear H'
    try clear c1
    try clear p2
    obtain ⟨x5_1, x6_1, rfl, rfl, HA, HK1, HB⟩ := hrel
    cases gk with
    | zero => exact absurd HA.out (by simp [missiveref09_Quote.l0])
    | succ k1 =>
      have H := HA.out
      clear HA
      simp only [missiveref09_Quote.l0] at H
      by_cases c3 : x6_1 < (l1.length : Int)
      · rw [if_pos c3] at H
        have c3b0 : decide (x6_1 < (l1.length : Int)) = true := decide_eq_true c3
        clear c3
        by_cases c4 : 0 ≤ x6_1
        · rw [if_pos c4] at H
          have c4b0 : decide (0 ≤ x6_1) = true := decide_eq_true c4
          clear c4
          replace H := Option.bind_eq_some_iff.mp H
          obtain ⟨t184, A50, H⟩ := H
          replace H : (if t184 = true then (if x5_1.size + 2 ≤ 9223372036854775807 then (if (x5_1 ++ (⟨#[59, 32]⟩ : ByteArray)).size + ((rd_T25 l1 x6_1).f0).size ≤ 9223372036854775807 then (if ((x5_1 ++ (⟨#[59, 32]⟩ : ByteArray)) ++ ((rd_T25 l1 x6_1).f0)).size + 1 ≤ 9223372036854775807 then ((missiveref09_Token.f k1 ((rd_T25 l1 x6_1).f1)).bind fun t185 => (if t185 = true then (if (((x5_1 ++ (⟨#[59, 32]⟩ : ByteArray)) ++ ((rd_T25 l1 x6_1).f0)) ++ (⟨#[61]⟩ : ByteArray)).size + ((rd_T25 l1 x6_1).f1).size ≤ 9223372036854775807 then (missiveref09_Quote.l0 k1 l1 ((((x5_1 ++ (⟨#[59, 32]⟩ : ByteArray)) ++ ((rd_T25 l1 x6_1).f0)) ++ (⟨#[61]⟩ : ByteArray)) ++ ((rd_T25 l1 x6_1).f1)) (wrap64 (x6_1 + 1))) else (none)) else (if (((x5_1 ++ (⟨#[59, 32]⟩ : ByteArray)) ++ ((rd_T25 l1 x6_1).f0)) ++ (⟨#[61]⟩ : ByteArray)).size + 1 ≤ 9223372036854775807 then (missiveref09_Quote.l1 k1 l1 ((((x5_1 ++ (⟨#[59, 32]⟩ : ByteArray)) ++ ((rd_T25 l1 x6_1).f0)) ++ (⟨#[61]⟩ : ByteArray)) ++ (⟨#[34]⟩ : ByteArray)) x6_1 0 ((rd_T25 l1 x6_1).f0) ((rd_T25 l1 x6_1).f1)) else (none)))) else (none)) else (none)) else (none)) else (missiveref09_Quote.l0 k1 l1 x5_1 (wrap64 (x6_1 + 1)))) = some r := H
          have A5 := Aside0.mk A50
          clear A50
          by_cases c6 : t184 = true
          · subst c6
            have H1 : (if x5_1.size + 2 ≤ 9223372036854775807 then (if (x5_1 ++ (⟨#[59, 32]⟩ : ByteArray)).size + ((rd_T25 l1 x6_1).f0).size ≤ 9223372036854775807 then (if ((x5_1 ++ (⟨#[59, 32]⟩ : ByteArray)) ++ ((rd_T25 l1 x6_1).f0)).size + 1 ≤ 9223372036854775807 then ((missiveref09_Token.f k1 ((rd_T25 l1 x6_1).f1)).bind fun t185 => (if t185 = true then (if (((x5_1 ++ (⟨#[59, 32]⟩ : ByteArray)) ++ ((rd_T25 l1 x6_1).f0)) ++ (⟨#[61]⟩ : ByteArray)).size + ((rd_T25 l1 x6_1).f1).size ≤ 9223372036854775807 then (missiveref09_Quote.l0 k1 l1 ((((x5_1 ++ (⟨#[59, 32]⟩ : ByteArray)) ++ ((rd_T25 l1 x6_1).f0)) ++ (⟨#[61]⟩ : ByteArray)) ++ ((rd_T25 l1 x6_1).f1)) (wrap64 (x6_1 + 1))) else (none)) else (if (((x5_1 ++ (⟨#[59, 32]⟩ : ByteArray)) ++ ((rd_T25 l1 x6_1).f0)) ++ (⟨#[61]⟩ : ByteArray)).size + 1 ≤ 9223372036854775807 then (missiveref09_Quote.l1 k1 l1 ((((x5_1 ++ (⟨#[59, 32]⟩ : ByteArray)) ++ ((rd_T25 l1 x6_1).f0)) ++ (⟨#[61]⟩ : ByteArray)) ++ (⟨#[34]⟩ : ByteArray)) x6_1 0 ((rd_T25 l1 x6_1).f0) ((rd_T25 l1 x6_1).f1)) else (none)))) else (none)) else (none)) else (none)) = some r := by rw [if_pos rfl] at H; exact H
            clear H
            have H := H1
            clear H1
            by_cases c7 : x5_1.size + 2 ≤ 9223372036854775807
            · rw [if_pos c7] at H
              have c7b0 := eq_true c7
              have c7b1 : decide (x5_1.size + 2 ≤ 9223372036854775807) = true := decide_eq_true c7
              try have c7b2 : (9223372036854775807 < x5_1.size + 2) = False := eq_false (Nat.not_lt.2 c7)
              by_cases c8 : (x5_1 ++ (⟨#[59, 32]⟩ : ByteArray)).size + ((rd_T25 l1 x6_1).f0).size ≤ 9223372036854775807
              · rw [if_pos c8] at H
                have c8b0 := eq_true c8
                have c8b1 : decide ((x5_1 ++ (⟨#[59, 32]⟩ : ByteArray)).size + ((rd_T25 l1 x6_1).f0).size ≤ 9223372036854775807) = true := decide_eq_true c8
                try have c8b3 : (9223372036854775807 < x5_1.size + 2 + ((rd_T25 l1 x6_1).f0).size) = False := eq_false (by have h_ := c8; simp only [ByteArray.size_append] at h_; have z0_ : ((⟨#[59, 32]⟩ : ByteArray)).size = 2 := rfl; omega)
                try have c8b2 : (9223372036854775807 < (x5_1 ++ (⟨#[59, 32]⟩ : ByteArray)).size + ((rd_T25 l1 x6_1).f0).size) = False := eq_false (Nat.not_lt.2 c8)
                by_cases c9 : ((x5_1 ++ (⟨#[59, 32]⟩ : ByteArray)) ++ ((rd_T25 l1 x6_1).f0)).size + 1 ≤ 9223372036854775807
                · rw [if_pos c9] at H
                  have c9b0 := eq_true c9
                  have c9b1 : decide (((x5_1 ++ (⟨#[59, 32]⟩ : ByteArray)) ++ ((rd_T25 l1 x6_1).f0)).size + 1 ≤ 9223372036854775807) = true := decide_eq_true c9
                  try have c9b3 : (9223372036854775807 < x5_1.size + 2 + ((rd_T25 l1 x6_1).f0).size + 1) = False := eq_false (by have h_ := c9; simp only [ByteArray.size_append] at h_; have z0_ : ((⟨#[59, 32]⟩ : ByteArray)).size = 2 := rfl; omega)
                  try have c9b2 : (9223372036854775807 < ((x5_1 ++ (⟨#[59, 32]⟩ : ByteArray)) ++ ((rd_T25 l1 x6_1).f0)).size + 1) = False := eq_false (Nat.not_lt.2 c9)
                  replace H := Option.bind_eq_some_iff.mp H
                  obtain ⟨t185, A100, H⟩ := H
                  replace H : (if t185 = true then (if (((x5_1 ++ (⟨#[59, 32]⟩ : ByteArray)) ++ ((rd_T25 l1 x6_1).f0)) ++ (⟨#[61]⟩ : ByteArray)).size + ((rd_T25 l1 x6_1).f1).size ≤ 9223372036854775807 then (missiveref09_Quote.l0 k1 l1 ((((x5_1 ++ (⟨#[59, 32]⟩ : ByteArray)) ++ ((rd_T25 l1 x6_1).f0)) ++ (⟨#[61]⟩ : ByteArray)) ++ ((rd_T25 l1 x6_1).f1)) (wrap64 (x6_1 + 1))) else (none)) else (if (((x5_1 ++ (⟨#[59, 32]⟩ : ByteArray)) ++ ((rd_T25 l1 x6_1).f0)) ++ (⟨#[61]⟩ : ByteArray)).size + 1 ≤ 9223372036854775807 then (missiveref09_Quote.l1 k1 l1 ((((x5_1 ++ (⟨#[59, 32]⟩ : ByteArray)) ++ ((rd_T25 l1 x6_1).f0)) ++ (⟨#[61]⟩ : ByteArray)) ++ (⟨#[34]⟩ : ByteArray)) x6_1 0 ((rd_T25 l1 x6_1).f0) ((rd_T25 l1 x6_1).f1)) else (none))) = some r := H
                  have A10 := Aside0.mk A100
                  clear A100
                  by_cases c11 : t185 = true
                  · subst c11
                    have H1 : (if (((x5_1 ++ (⟨#[59, 32]⟩ : ByteArray)) ++ ((rd_T25 l1 x6_1).f0)) ++ (⟨#[61]⟩ : ByteArray)).size + ((rd_T25 l1 x6_1).f1).size ≤ 9223372036854775807 then (missiveref09_Quote.l0 k1 l1 ((((x5_1 ++ (⟨#[59, 32]⟩ : ByteArray)) ++ ((rd_T25 l1 x6_1).f0)) ++ (⟨#[61]⟩ : ByteArray)) ++ ((rd_T25 l1 x6_1).f1)) (wrap64 (x6_1 + 1))) else (none)) = some r := by rw [if_pos rfl] at H; exact H
                    clear H
                    have H := H1
                    clear H1
                    by_cases c12 : (((x5_1 ++ (⟨#[59, 32]⟩ : ByteArray)) ++ ((rd_T25 l1 x6_1).f0)) ++ (⟨#[61]⟩ : ByteArray)).size + ((rd_T25 l1 x6_1).f1).size ≤ 9223372036854775807
                    · rw [if_pos c12] at H
                      have c12b0 := eq_true c12
                      have c12b1 : decide ((((x5_1 ++ (⟨#[59, 32]⟩ : ByteArray)) ++ ((rd_T25 l1 x6_1).f0)) ++ (⟨#[61]⟩ : ByteArray)).size + ((rd_T25 l1 x6_1).f1).size ≤ 9223372036854775807) = true := decide_eq_true c12
                      try have c12b3 : (9223372036854775807 < x5_1.size + 2 + ((rd_T25 l1 x6_1).f0).size + 1 + ((rd_T25 l1 x6_1).f1).size) = False := eq_false (by have h_ := c12; simp only [ByteArray.size_append] at h_; have z0_ : ((⟨#[59, 32]⟩ : ByteArray)).size = 2 := rfl; have z1_ : ((⟨#[61]⟩ : ByteArray)).size = 1 := rfl; omega)
                      try have c12b2 : (9223372036854775807 < (((x5_1 ++ (⟨#[59, 32]⟩ : ByteArray)) ++ ((rd_T25 l1 x6_1).f0)) ++ (⟨#[61]⟩ : ByteArray)).size + ((rd_T25 l1 x6_1).f1).size) = False := eq_false (Nat.not_lt.2 c12)
                      have H' := Aside0.mk H
                      clear H
                      have p182 : 0 ≤ (x6_1 : Int) := of_decide_eq_true (by first | (with_reducible assumption) | assumption)
                      have q182 : x6_1 < (l1.length : Int) := of_decide_eq_true (by first | (with_reducible assumption) | assumption)
                      obtain ⟨ad182, e182, hx182_0, hx182_1⟩ := at_T25 HR1.out x6_1 p182 q182
                      cases e182
                      replace hx182_0 := (HB.out.cell (World.block_lt_of_cell? w _ hx182_0)).trans hx182_0
                      replace hx182_1 := (HB.out.cell (World.block_lt_of_cell? w _ hx182_1)).trans hx182_1
                      replace p182 := eq_true p182
                      replace q182 := eq_true q182
                      go_wp2_with (first | ((with_reducible refine gate_dst (N := 7) rfl ?_); refine box_event ?hg (N := 7) ?hd (cs := #[.string (⟨#[]⟩ : ByteArray), .string (⟨#[]⟩ : ByteArray)]) (t := 25) ?hr ?_; (case hd => rfl); (case hg => rfl); (case hr => first | (go_simp; done) | (go_simp; rfl)); intro gb183 hg w13 hbox hb; have n0_ := Aside0.mk (below_step (by repeat (first | (with_reducible first | exact HB.out | apply below_alloc | apply pw_below_drewN | apply below_drew1) | exact HB.out)) hb); have n1_ := Aside0.mk (hbox); have n2_ := Aside0.mk ((by rw [hg]; exact (below_size (by repeat (first | (with_reducible first | exact HB.out | apply below_alloc | apply pw_below_drewN | apply below_drew1) | exact HB.out))) : w.heap.size ≤ gb183)); have n3_ := Aside0.mk ((by rw [hg]; exact (below_size (by repeat (first | (with_reducible first | exact HB.out | apply below_alloc | apply pw_below_drewN | apply below_drew1) | exact HB.out))) : w.heap.size ≤ gb183)); clear HB; have HB := n0_; have BK183 := n1_; have GW183 := n2_; have GE183 := n3_; clear n0_ n1_ n2_ n3_; clear hb hbox hg; have hcz14_0 : w13.cell? ⟨gb183, 0, none⟩ = some (.string (⟨#[]⟩ : ByteArray)) := (blk_cell BK183.out 0).trans rfl; have hcz14_1 : w13.cell? ⟨gb183, 1, none⟩ = some (.string (⟨#[]⟩ : ByteArray)) := (blk_cell BK183.out 1).trans rfl; have hfz14_0 := blk_frozen BK183.out 0; have hfz14_1 := blk_frozen BK183.out 1) | ((with_reducible refine gate_callee (f := 13) rfl ?_); refine goesL_ (some 22) rfl rfl Tryz.func13 (by kernel_rfl) rfl #[.string ((rd_T25 l1 x6_1).f0)] rfl (by (try simp only [List.map_toArray, List.map_cons, List.map_nil]); first | done | rfl | (simp only [List.length_drop, List.length_take]; rfl)) ?_; (with_reducible refine (missiveref09_Token.calls k1 ((rd_T25 l1 x6_1).f0) true _ A5.out).mono ?_); rintro e w' ⟨rfl, ⟨nd, rfl⟩⟩; refine ⟨_, rfl, ?_⟩) | ((with_reducible refine gate_callee (f := 13) rfl ?_); refine goesL_ (some 32) rfl rfl Tryz.func13 (by kernel_rfl) rfl #[.string ((rd_T25 l1 x6_1).f1)] rfl (by (try simp only [List.map_toArray, List.map_cons, List.map_nil]); first | done | rfl | (simp only [List.length_drop, List.length_take]; rfl)) ?_; (with_reducible refine (missiveref09_Token.calls k1 ((rd_T25 l1 x6_1).f1) true _ A10.out).mono ?_); rintro e w' ⟨rfl, ⟨nd, rfl⟩⟩; refine ⟨_, rfl, ?_⟩))
                      go_roundg k1
                      case measure => have := HK1.out; omega
                      case rel => exact ⟨((((x5_1 ++ (⟨#[59, 32]⟩ : ByteArray)) ++ ((rd_T25 l1 x6_1).f0)) ++ (⟨#[61]⟩ : ByteArray)) ++ ((rd_T25 l1 x6_1).f1)), (wrap64 (x6_1 + 1)), (by first | rfl | (simp; done) | (simp [*]; done)), (by first | rfl | (simp; done) | (simp [*]; done)), H', ⟨by have := HK1.out; omega⟩, ⟨by repeat (first | (with_reducible first | exact HB.out | apply below_alloc | apply pw_below_drewN | apply below_drew1 | refine below_set ?_ GE183.out) | exact HB.out)⟩⟩
                    · rw [if_neg c12] at H
                      exact absurd H (by simp)
                  · replace c11 := Bool.eq_false_iff.mpr c11
                    subst c11
                    have H1 : (if (((x5_1 ++ (⟨#[59, 32]⟩ : ByteArray)) ++ ((rd_T25 l1 x6_1).f0)) ++ (⟨#[61]⟩ : ByteArray)).size + 1 ≤ 9223372036854775807 then (missiveref09_Quote.l1 k1 l1 ((((x5_1 ++ (⟨#[59, 32]⟩ : ByteArray)) ++ ((rd_T25 l1 x6_1).f0)) ++ (⟨#[61]⟩ : ByteArray)) ++ (⟨#[34]⟩ : ByteArray)) x6_1 0 ((rd_T25 l1 x6_1).f0) ((rd_T25 l1 x6_1).f1)) else (none)) = some r := by rw [if_neg (show ¬ (false = true) by decide)] at H; exact H
                    clear H
                    have H := H1
                    clear H1
                    by_cases c15 : (((x5_1 ++ (⟨#[59, 32]⟩ : ByteArray)) ++ ((rd_T25 l1 x6_1).f0)) ++ (⟨#[61]⟩ : ByteArray)).size + 1 ≤ 9223372036854775807
                    · rw [if_pos c15] at H
                      have c15b0 := eq_true c15
                      have c15b1 : decide ((((x5_1 ++ (⟨#[59, 32]⟩ : ByteArray)) ++ ((rd_T25 l1 x6_1).f0)) ++ (⟨#[61]⟩ : ByteArray)).size + 1 ≤ 9223372036854775807) = true := decide_eq_true c15
                      try have c15b3 : (9223372036854775807 < x5_1.size + 2 + ((rd_T25 l1 x6_1).f0).size + 1 + 1) = False := eq_false (by have h_ := c15; simp only [ByteArray.size_append] at h_; have z0_ : ((⟨#[59, 32]⟩ : ByteArray)).size = 2 := rfl; have z1_ : ((⟨#[61]⟩ : ByteArray)).size = 1 := rfl; omega)
                      try have c15b2 : (9223372036854775807 < (((x5_1 ++ (⟨#[59, 32]⟩ : ByteArray)) ++ ((rd_T25 l1 x6_1).f0)) ++ (⟨#[61]⟩ : ByteArray)).size + 1) = False := eq_false (Nat.not_lt.2 c15)
                      have H' := Aside0.mk H
                      clear H
                      have p182 : 0 ≤ (x6_1 : Int) := of_decide_eq_true (by first | (with_reducible assumption) | assumption)
                      have q182 : x6_1 < (l1.length : Int) := of_decide_eq_true (by first | (with_reducible assumption) | assumption)
                      obtain ⟨ad182, e182, hx182_0, hx182_1⟩ := at_T25 HR1.out x6_1 p182 q182
                      cases e182
                      replace hx182_0 := (HB.out.cell (World.block_lt_of_cell? w _ hx182_0)).trans hx182_0
                      replace hx182_1 := (HB.out.cell (World.block_lt_of_cell? w _ hx182_1)).trans hx182_1
                      replace p182 := eq_true p182
                      replace q182 := eq_true q182
                      go_wp2_with (first | ((with_reducible refine gate_dst (N := 7) rfl ?_); refine box_event ?hg (N := 7) ?hd (cs := #[.string (⟨#[]⟩ : ByteArray), .string (⟨#[]⟩ : ByteArray)]) (t := 25) ?hr ?_; (case hd => rfl); (case hg => rfl); (case hr => first | (go_simp; done) | (go_simp; rfl)); intro gb183 hg w16 hbox hb; have n0_ := Aside0.mk (below_step (by repeat (first | (with_reducible first | exact HB.out | apply below_alloc | apply pw_below_drewN | apply below_drew1) | exact HB.out)) hb); have n1_ := Aside0.mk (hbox); have n2_ := Aside0.mk ((by rw [hg]; exact (below_size (by repeat (first | (with_reducible first | exact HB.out | apply below_alloc | apply pw_below_drewN | apply below_drew1) | exact HB.out))) : w.heap.size ≤ gb183)); have n3_ := Aside0.mk ((by rw [hg]; exact (below_size (by repeat (first | (with_reducible first | exact HB.out | apply below_alloc | apply pw_below_drewN | apply below_drew1) | exact HB.out))) : w.heap.size ≤ gb183)); clear HB; have HB := n0_; have BK183 := n1_; have GW183 := n2_; have GE183 := n3_; clear n0_ n1_ n2_ n3_; clear hb hbox hg; have hcz17_0 : w16.cell? ⟨gb183, 0, none⟩ = some (.string (⟨#[]⟩ : ByteArray)) := (blk_cell BK183.out 0).trans rfl; have hcz17_1 : w16.cell? ⟨gb183, 1, none⟩ = some (.string (⟨#[]⟩ : ByteArray)) := (blk_cell BK183.out 1).trans rfl; have hfz17_0 := blk_frozen BK183.out 0; have hfz17_1 := blk_frozen BK183.out 1) | ((with_reducible refine gate_callee (f := 13) rfl ?_); refine goesL_ (some 22) rfl rfl Tryz.func13 (by kernel_rfl) rfl #[.string ((rd_T25 l1 x6_1).f0)] rfl (by (try simp only [List.map_toArray, List.map_cons, List.map_nil]); first | done | rfl | (simp only [List.length_drop, List.length_take]; rfl)) ?_; (with_reducible refine (missiveref09_Token.calls k1 ((rd_T25 l1 x6_1).f0) true _ A5.out).mono ?_); rintro e w' ⟨rfl, ⟨nd, rfl⟩⟩; refine ⟨_, rfl, ?_⟩) | ((with_reducible refine gate_callee (f := 13) rfl ?_); refine goesL_ (some 32) rfl rfl Tryz.func13 (by kernel_rfl) rfl #[.string ((rd_T25 l1 x6_1).f1)] rfl (by (try simp only [List.map_toArray, List.map_cons, List.map_nil]); first | done | rfl | (simp only [List.length_drop, List.length_take]; rfl)) ?_; (with_reducible refine (missiveref09_Token.calls k1 ((rd_T25 l1 x6_1).f1) false _ A10.out).mono ?_); rintro e w' ⟨rfl, ⟨nd, rfl⟩⟩; refine ⟨_, rfl, ?_⟩))
                      go_loopg [5, 8] k1 (fun kq v5 v8 w' => ∃ (x5_2 : ByteArray) (x8_2 : Int), v5 = .string x5_2 ∧ v8 = .int .i64 x8_2 ∧ Aside0 (missiveref09_Quote.l1 kq l1 x5_2 x6_1 x8_2 ((rd_T25 l1 x6_1).f0) ((rd_T25 l1 x6_1).f1) = some r) ∧ Aside0 (kq ≤ k1) ∧ Aside0 (w'.heap[gb183]? = some (.cells #[.string ((rd_T25 l1 x6_1).f0), .string ((rd_T25 l1 x6_1).f1)] 25 (0, 0))) ∧ Aside0 (Below w.heap.size w w'))
                      case atStart => exact ⟨((((x5_1 ++ (⟨#[59, 32]⟩ : ByteArray)) ++ ((rd_T25 l1 x6_1).f0)) ++ (⟨#[61]⟩ : ByteArray)) ++ (⟨#[34]⟩ : ByteArray)), (0), (by first | rfl | (simp; done) | (simp [*]; done)), (by first | rfl | (simp; done) | (simp [*]; done)), H', ⟨Nat.le_refl _⟩, ⟨by (with_reducible repeat (first | refine blk_drewN ?_ _ | refine blk_drew ?_ | refine blk_alloc ?_ _)); refine blk_put (cs := #[.string ((rd_T25 l1 x6_1).f0), .string (⟨#[]⟩ : ByteArray)]) ?_ 1 _ rfl; (with_reducible repeat (first | refine blk_drewN ?_ _ | refine blk_drew ?_ | refine blk_alloc ?_ _)); refine blk_put (cs := #[.string (⟨#[]⟩ : ByteArray), .string (⟨#[]⟩ : ByteArray)]) ?_ 0 _ rfl; (with_reducible repeat (first | refine blk_drewN ?_ _ | refine blk_drew ?_ | refine blk_alloc ?_ _)); exact BK183.out⟩, ⟨by repeat (first | (with_reducible first | exact HB.out | apply below_alloc | apply pw_below_drewN | apply below_drew1 | refine below_set ?_ GE183.out) | exact HB.out)⟩⟩
                      case round =>
                        clear H'
                        try clear c1
                        try clear p1
                        try clear q1
                        try clear hx1
                        try clear p2
                        try clear c3
                        try clear c3b0
                        try clear c4
                        try clear c4b0
                        try clear c6
                        try clear p6
                        try clear c7
                        try clear c7b0
                        try clear c7b1
                        try clear c7b2
                        try clear c8
                        try clear c8b0
                        try clear c8b1
                        try clear c8b2
                        try clear c9
                        try clear c9b0
                        try clear c9b1
                        try clear c9b2
                        try clear c11
                        try clear c12
                        try clear c12b0
                        try clear c12b1
                        try clear c12b2
                        try clear c13
                        try clear c15
                        try clear c15b0
                        try clear c15b1
                        try clear c15b2
                        try clear c17
                        try clear hcz14_0
                        try clear hcz14_1
                        try clear hcz17_0
                        try clear hcz17_1
                        try clear hfz14_0
                        try clear hfz14_1
                        try clear hfz17_0
                        try clear hfz17_1
                        try clear hx182_0
                        try clear hx182_1
                        try clear p182
                        try clear p2
                        try clear q182
                        obtain ⟨x5_2, x8_2, rfl, rfl, HA, HK2, BK183, HB⟩ := hrel
                        cases gk with
                        | zero => exact absurd HA.out (by simp [missiveref09_Quote.l1])
                        | succ k2 =>
                          have H := HA.out
                          clear HA
                          simp only [missiveref09_Quote.l1] at H
                          by_cases c18 : x8_2 < (((rd_T25 l1 x6_1).f1).size : Int)
                          · rw [if_pos c18] at H
                            have c18b0 : decide (x8_2 < (((rd_T25 l1 x6_1).f1).size : Int)) = true := decide_eq_true c18
                            clear c18
                            by_cases c19 : 0 ≤ x8_2
                            · rw [if_pos c19] at H
                              have c19b0 : decide (0 ≤ x8_2) = true := decide_eq_true c19
                              clear c19
                              by_cases c21 : (bt ((rd_T25 l1 x6_1).f1) x8_2) = 34
                              · rw [if_pos c21] at H
                                have c21b0 : ((bt ((rd_T25 l1 x6_1).f1) x8_2) == 34) = true := beq_iff_eq.mpr c21
                                have c21b1 : ((bt ((rd_T25 l1 x6_1).f1) x8_2) != 34) = false := bne_eq_false_iff_eq.mpr c21
                                clear c21
                                by_cases c22 : x5_2.size + 1 ≤ 9223372036854775807
                                · rw [if_pos c22] at H
                                  have c22b0 := eq_true c22
                                  have c22b1 : decide (x5_2.size + 1 ≤ 9223372036854775807) = true := decide_eq_true c22
                                  try have c22b2 : (9223372036854775807 < x5_2.size + 1) = False := eq_false (Nat.not_lt.2 c22)
                                  have c23b0 := eq_true (of_decide_eq_true (by first | (with_reducible assumption) | assumption) : 0 ≤ x8_2)
                                  by_cases c24 : x8_2 ≤ (wrap64 (x8_2 + 1))
                                  · rw [if_pos c24] at H
                                    have c24b0 := eq_true c24
                                    have c24b1 : decide (x8_2 ≤ (wrap64 (x8_2 + 1))) = true := decide_eq_true c24
                                    by_cases c25 : (wrap64 (x8_2 + 1)) ≤ (((rd_T25 l1 x6_1).f1).size : Int)
                                    · rw [if_pos c25] at H
                                      have c25b0 := eq_true c25
                                      have c25b1 : decide ((wrap64 (x8_2 + 1)) ≤ (((rd_T25 l1 x6_1).f1).size : Int)) = true := decide_eq_true c25
                                      by_cases c26 : (x5_2 ++ (⟨#[92]⟩ : ByteArray)).size + (((rd_T25 l1 x6_1).f1).extract (x8_2 : Int).toNat ((wrap64 (x8_2 + 1)) : Int).toNat).size ≤ 9223372036854775807
                                      · rw [if_pos c26] at H
                                        have c26b0 := eq_true c26
                                        have c26b1 : decide ((x5_2 ++ (⟨#[92]⟩ : ByteArray)).size + (((rd_T25 l1 x6_1).f1).extract (x8_2 : Int).toNat ((wrap64 (x8_2 + 1)) : Int).toNat).size ≤ 9223372036854775807) = true := decide_eq_true c26
                                        try have c26b3 : (9223372036854775807 < x5_2.size + 1 + (((rd_T25 l1 x6_1).f1).extract (x8_2 : Int).toNat ((wrap64 (x8_2 + 1)) : Int).toNat).size) = False := eq_false (by have h_ := c26; simp only [ByteArray.size_append] at h_; have z0_ : ((⟨#[92]⟩ : ByteArray)).size = 1 := rfl; omega)
                                        try have c26b2 : (9223372036854775807 < (x5_2 ++ (⟨#[92]⟩ : ByteArray)).size + (((rd_T25 l1 x6_1).f1).extract (x8_2 : Int).toNat ((wrap64 (x8_2 + 1)) : Int).toNat).size) = False := eq_false (Nat.not_lt.2 c26)
                                        have H' := Aside0.mk H
                                        clear H
                                        have hcz27_0 : wr.cell? ⟨gb183, 0, none⟩ = some (.string ((rd_T25 l1 x6_1).f0)) := (blk_cell BK183.out 0).trans rfl
                                        have hcz27_1 : wr.cell? ⟨gb183, 1, none⟩ = some (.string ((rd_T25 l1 x6_1).f1)) := (blk_cell BK183.out 1).trans rfl
                                        have hfz27_0 := blk_frozen BK183.out 0
                                        have hfz27_1 := blk_frozen BK183.out 1
                                        have p20 : 0 ≤ (x8_2 : Int) := of_decide_eq_true (by first | (with_reducible assumption) | assumption)
                                        have q20 : x8_2 < (((rd_T25 l1 x6_1).f1).size : Int) := of_decide_eq_true (by first | (with_reducible assumption) | assumption)
                                        have hx20 := bt_at ((rd_T25 l1 x6_1).f1) x8_2
                                        replace p20 := eq_true p20
                                        replace q20 := eq_true q20
                                        go_wp2
                                        go_roundg k2
                                        case measure => have := HK1.out; have := HK2.out; omega
                                        case rel => exact ⟨((x5_2 ++ (⟨#[92]⟩ : ByteArray)) ++ (((rd_T25 l1 x6_1).f1).extract (x8_2 : Int).toNat ((wrap64 (x8_2 + 1)) : Int).toNat)), (wrap64 (x8_2 + 1)), (by first | rfl | (simp; done) | (simp [*]; done)), (by first | rfl | (simp; done) | (simp [*]; done)), H', ⟨by have := HK1.out; have := HK2.out; omega⟩, ⟨by (with_reducible repeat (first | refine blk_drewN ?_ _ | refine blk_drew ?_ | refine blk_alloc ?_ _)); exact BK183.out⟩, ⟨by repeat (first | (with_reducible first | exact HB.out | apply below_alloc | apply pw_below_drewN | apply below_drew1 | refine below_set ?_ GE183.out) | exact HB.out)⟩⟩
                                      · rw [if_neg c26] at H
                                        exact absurd H (by simp)
                                    · rw [if_neg c25] at H
                                      exact absurd H (by simp)
                                  · rw [if_neg c24] at H
                                    exact absurd H (by simp)
                                · rw [if_neg c22] at H
                                  exact absurd H (by simp)
                              · rw [if_neg c21] at H
                                have c21b0 : ((bt ((rd_T25 l1 x6_1).f1) x8_2) == 34) = false := beq_eq_false_iff_ne.mpr c21
                                have c21b1 : ((bt ((rd_T25 l1 x6_1).f1) x8_2) != 34) = true := bne_iff_ne.mpr c21
                                by_cases c29 : (bt ((rd_T25 l1 x6_1).f1) x8_2) = 92
                                · rw [if_pos c29] at H
                                  have c29b0 : ((bt ((rd_T25 l1 x6_1).f1) x8_2) == 92) = true := beq_iff_eq.mpr c29
                                  have c29b1 : ((bt ((rd_T25 l1 x6_1).f1) x8_2) != 92) = false := bne_eq_false_iff_eq.mpr c29
                                  clear c29
                                  by_cases c30 : x5_2.size + 1 ≤ 9223372036854775807
                                  · rw [if_pos c30] at H
                                    have c30b0 := eq_true c30
                                    have c30b1 : decide (x5_2.size + 1 ≤ 9223372036854775807) = true := decide_eq_true c30
                                    try have c30b2 : (9223372036854775807 < x5_2.size + 1) = False := eq_false (Nat.not_lt.2 c30)
                                    have c31b0 := eq_true (of_decide_eq_true (by first | (with_reducible assumption) | assumption) : 0 ≤ x8_2)
                                    by_cases c32 : x8_2 ≤ (wrap64 (x8_2 + 1))
                                    · rw [if_pos c32] at H
                                      have c32b0 := eq_true c32
                                      have c32b1 : decide (x8_2 ≤ (wrap64 (x8_2 + 1))) = true := decide_eq_true c32
                                      by_cases c33 : (wrap64 (x8_2 + 1)) ≤ (((rd_T25 l1 x6_1).f1).size : Int)
                                      · rw [if_pos c33] at H
                                        have c33b0 := eq_true c33
                                        have c33b1 : decide ((wrap64 (x8_2 + 1)) ≤ (((rd_T25 l1 x6_1).f1).size : Int)) = true := decide_eq_true c33
                                        by_cases c34 : (x5_2 ++ (⟨#[92]⟩ : ByteArray)).size + (((rd_T25 l1 x6_1).f1).extract (x8_2 : Int).toNat ((wrap64 (x8_2 + 1)) : Int).toNat).size ≤ 9223372036854775807
                                        · rw [if_pos c34] at H
                                          have c34b0 := eq_true c34
                                          have c34b1 : decide ((x5_2 ++ (⟨#[92]⟩ : ByteArray)).size + (((rd_T25 l1 x6_1).f1).extract (x8_2 : Int).toNat ((wrap64 (x8_2 + 1)) : Int).toNat).size ≤ 9223372036854775807) = true := decide_eq_true c34
                                          try have c34b3 : (9223372036854775807 < x5_2.size + 1 + (((rd_T25 l1 x6_1).f1).extract (x8_2 : Int).toNat ((wrap64 (x8_2 + 1)) : Int).toNat).size) = False := eq_false (by have h_ := c34; simp only [ByteArray.size_append] at h_; have z0_ : ((⟨#[92]⟩ : ByteArray)).size = 1 := rfl; omega)
                                          try have c34b2 : (9223372036854775807 < (x5_2 ++ (⟨#[92]⟩ : ByteArray)).size + (((rd_T25 l1 x6_1).f1).extract (x8_2 : Int).toNat ((wrap64 (x8_2 + 1)) : Int).toNat).size) = False := eq_false (Nat.not_lt.2 c34)
                                          have H' := Aside0.mk H
                                          clear H
                                          have hcz35_0 : wr.cell? ⟨gb183, 0, none⟩ = some (.string ((rd_T25 l1 x6_1).f0)) := (blk_cell BK183.out 0).trans rfl
                                          have hcz35_1 : wr.cell? ⟨gb183, 1, none⟩ = some (.string ((rd_T25 l1 x6_1).f1)) := (blk_cell BK183.out 1).trans rfl
                                          have hfz35_0 := blk_frozen BK183.out 0
                                          have hfz35_1 := blk_frozen BK183.out 1
                                          have p20 : 0 ≤ (x8_2 : Int) := of_decide_eq_true (by first | (with_reducible assumption) | assumption)
                                          have q20 : x8_2 < (((rd_T25 l1 x6_1).f1).size : Int) := of_decide_eq_true (by first | (with_reducible assumption) | assumption)
                                          have hx20 := bt_at ((rd_T25 l1 x6_1).f1) x8_2
                                          replace p20 := eq_true p20
                                          replace q20 := eq_true q20
                                          have p28 : 0 ≤ (x8_2 : Int) := of_decide_eq_true (by first | (with_reducible assumption) | assumption)
                                          have q28 : x8_2 < (((rd_T25 l1 x6_1).f1).size : Int) := of_decide_eq_true (by first | (with_reducible assumption) | assumption)
                                          have hx28 := bt_at ((rd_T25 l1 x6_1).f1) x8_2
                                          replace p28 := eq_true p28
                                          replace q28 := eq_true q28
                                          go_wp2
                                          go_roundg k2
                                          case measure => have := HK1.out; have := HK2.out; omega
                                          case rel => exact ⟨((x5_2 ++ (⟨#[92]⟩ : ByteArray)) ++ (((rd_T25 l1 x6_1).f1).extract (x8_2 : Int).toNat ((wrap64 (x8_2 + 1)) : Int).toNat)), (wrap64 (x8_2 + 1)), (by first | rfl | (simp; done) | (simp [*]; done)), (by first | rfl | (simp; done) | (simp [*]; done)), H', ⟨by have := HK1.out; have := HK2.out; omega⟩, ⟨by (with_reducible repeat (first | refine blk_drewN ?_ _ | refine blk_drew ?_ | refine blk_alloc ?_ _)); exact BK183.out⟩, ⟨by repeat (first | (with_reducible first | exact HB.out | apply below_alloc | apply pw_below_drewN | apply below_drew1 | refine below_set ?_ GE183.out) | exact HB.out)⟩⟩
                                        · rw [if_neg c34] at H
                                          exact absurd H (by simp)
                                      · rw [if_neg c33] at H
                                        exact absurd H (by simp)
                                    · rw [if_neg c32] at H
                                      exact absurd H (by simp)
                                  · rw [if_neg c30] at H
                                    exact absurd H (by simp)
                                · rw [if_neg c29] at H
                                  have c29b0 : ((bt ((rd_T25 l1 x6_1).f1) x8_2) == 92) = false := beq_eq_false_iff_ne.mpr c29
                                  have c29b1 : ((bt ((rd_T25 l1 x6_1).f1) x8_2) != 92) = true := bne_iff_ne.mpr c29
                                  have c36b0 := eq_true (of_decide_eq_true (by first | (with_reducible assumption) | assumption) : 0 ≤ x8_2)
                                  by_cases c37 : x8_2 ≤ (wrap64 (x8_2 + 1))
                                  · rw [if_pos c37] at H
                                    have c37b0 := eq_true c37
                                    have c37b1 : decide (x8_2 ≤ (wrap64 (x8_2 + 1))) = true := decide_eq_true c37
                                    by_cases c38 : (wrap64 (x8_2 + 1)) ≤ (((rd_T25 l1 x6_1).f1).size : Int)
                                    · rw [if_pos c38] at H
                                      have c38b0 := eq_true c38
                                      have c38b1 : decide ((wrap64 (x8_2 + 1)) ≤ (((rd_T25 l1 x6_1).f1).size : Int)) = true := decide_eq_true c38
                                      by_cases c39 : x5_2.size + (((rd_T25 l1 x6_1).f1).extract (x8_2 : Int).toNat ((wrap64 (x8_2 + 1)) : Int).toNat).size ≤ 9223372036854775807
                                      · rw [if_pos c39] at H
                                        have c39b0 := eq_true c39
                                        have c39b1 : decide (x5_2.size + (((rd_T25 l1 x6_1).f1).extract (x8_2 : Int).toNat ((wrap64 (x8_2 + 1)) : Int).toNat).size ≤ 9223372036854775807) = true := decide_eq_true c39
                                        try have c39b2 : (9223372036854775807 < x5_2.size + (((rd_T25 l1 x6_1).f1).extract (x8_2 : Int).toNat ((wrap64 (x8_2 + 1)) : Int).toNat).size) = False := eq_false (Nat.not_lt.2 c39)
                                        have H' := Aside0.mk H
                                        clear H
                                        have hcz40_0 : wr.cell? ⟨gb183, 0, none⟩ = some (.string ((rd_T25 l1 x6_1).f0)) := (blk_cell BK183.out 0).trans rfl
                                        have hcz40_1 : wr.cell? ⟨gb183, 1, none⟩ = some (.string ((rd_T25 l1 x6_1).f1)) := (blk_cell BK183.out 1).trans rfl
                                        have hfz40_0 := blk_frozen BK183.out 0
                                        have hfz40_1 := blk_frozen BK183.out 1
                                        have p20 : 0 ≤ (x8_2 : Int) := of_decide_eq_true (by first | (with_reducible assumption) | assumption)
                                        have q20 : x8_2 < (((rd_T25 l1 x6_1).f1).size : Int) := of_decide_eq_true (by first | (with_reducible assumption) | assumption)
                                        have hx20 := bt_at ((rd_T25 l1 x6_1).f1) x8_2
                                        replace p20 := eq_true p20
                                        replace q20 := eq_true q20
                                        have p28 : 0 ≤ (x8_2 : Int) := of_decide_eq_true (by first | (with_reducible assumption) | assumption)
                                        have q28 : x8_2 < (((rd_T25 l1 x6_1).f1).size : Int) := of_decide_eq_true (by first | (with_reducible assumption) | assumption)
                                        have hx28 := bt_at ((rd_T25 l1 x6_1).f1) x8_2
                                        replace p28 := eq_true p28
                                        replace q28 := eq_true q28
                                        go_wp2
                                        go_roundg k2
                                        case measure => have := HK1.out; have := HK2.out; omega
                                        case rel => exact ⟨(x5_2 ++ (((rd_T25 l1 x6_1).f1).extract (x8_2 : Int).toNat ((wrap64 (x8_2 + 1)) : Int).toNat)), (wrap64 (x8_2 + 1)), (by first | rfl | (simp; done) | (simp [*]; done)), (by first | rfl | (simp; done) | (simp [*]; done)), H', ⟨by have := HK1.out; have := HK2.out; omega⟩, ⟨by (with_reducible repeat (first | refine blk_drewN ?_ _ | refine blk_drew ?_ | refine blk_alloc ?_ _)); exact BK183.out⟩, ⟨by repeat (first | (with_reducible first | exact HB.out | apply below_alloc | apply pw_below_drewN | apply below_drew1 | refine below_set ?_ GE183.out) | exact HB.out)⟩⟩
                                      · rw [if_neg c39] at H
                                        exact absurd H (by simp)
                                    · rw [if_neg c38] at H
                                      exact absurd H (by simp)
                                  · rw [if_neg c37] at H
                                    exact absurd H (by simp)
                            · rw [if_neg c19] at H
                              exact absurd H (by simp)
                          · rw [if_neg c18] at H
                            have c18b0 : decide (x8_2 < (((rd_T25 l1 x6_1).f1).size : Int)) = false := decide_eq_false c18
                            clear c18
                            by_cases c41 : x5_2.size + 1 ≤ 9223372036854775807
                            · rw [if_pos c41] at H
                              have c41b0 := eq_true c41
                              have c41b1 : decide (x5_2.size + 1 ≤ 9223372036854775807) = true := decide_eq_true c41
                              try have c41b2 : (9223372036854775807 < x5_2.size + 1) = False := eq_false (Nat.not_lt.2 c41)
                              have H' := Aside0.mk H
                              clear H
                              have hcz42_0 : wr.cell? ⟨gb183, 0, none⟩ = some (.string ((rd_T25 l1 x6_1).f0)) := (blk_cell BK183.out 0).trans rfl
                              have hcz42_1 : wr.cell? ⟨gb183, 1, none⟩ = some (.string ((rd_T25 l1 x6_1).f1)) := (blk_cell BK183.out 1).trans rfl
                              have hfz42_0 := blk_frozen BK183.out 0
                              have hfz42_1 := blk_frozen BK183.out 1
                              go_wp2
                              go_roundg k2
                              case measure => have := HK1.out; have := HK2.out; omega
                              case rel => exact ⟨(x5_2 ++ (⟨#[34]⟩ : ByteArray)), (wrap64 (x6_1 + 1)), (by first | rfl | (simp; done) | (simp [*]; done)), (by first | rfl | (simp; done) | (simp [*]; done)), H', ⟨by have := HK1.out; have := HK2.out; omega⟩, ⟨by repeat (first | (with_reducible first | exact HB.out | apply below_alloc | apply pw_below_drewN | apply below_drew1 | refine below_set ?_ GE183.out) | exact HB.out)⟩⟩
                            · rw [if_neg c41] at H
                              exact absurd H (by simp)
                    · rw [if_neg c15] at H
                      exact absurd H (by simp)
                · rw [if_neg c9] at H
                  exact absurd H (by simp)
              · rw [if_neg c8] at H
                exact absurd H (by simp)
            · rw [if_neg c7] at H
              exact absurd H (by simp)
          · replace c6 := Bool.eq_false_iff.mpr c6
            subst c6
            have H1 : (missiveref09_Quote.l0 k1 l1 x5_1 (wrap64 (x6_1 + 1))) = some r := by rw [if_neg (show ¬ (false = true) by decide)] at H; exact H
            clear H
            have H := H1
            clear H1
            have H' := Aside0.mk H
            clear H
            have p182 : 0 ≤ (x6_1 : Int) := of_decide_eq_true (by first | (with_reducible assumption) | assumption)
            have q182 : x6_1 < (l1.length : Int) := of_decide_eq_true (by first | (with_reducible assumption) | assumption)
            obtain ⟨ad182, e182, hx182_0, hx182_1⟩ := at_T25 HR1.out x6_1 p182 q182
            cases e182
            replace hx182_0 := (HB.out.cell (World.block_lt_of_cell? w _ hx182_0)).trans hx182_0
            replace hx182_1 := (HB.out.cell (World.block_lt_of_cell? w _ hx182_1)).trans hx182_1
            replace p182 := eq_true p182
            replace q182 := eq_true q182
            go_wp2_with (first | ((with_reducible refine gate_dst (N := 7) rfl ?_); refine box_event ?hg (N := 7) ?hd (cs := #[.string (⟨#[]⟩ : ByteArray), .string (⟨#[]⟩ : ByteArray)]) (t := 25) ?hr ?_; (case hd => rfl); (case hg => rfl); (case hr => first | (go_simp; done) | (go_simp; rfl)); intro gb183 hg w43 hbox hb; have n0_ := Aside0.mk (below_step (by repeat (first | (with_reducible first | exact HB.out | apply below_alloc | apply pw_below_drewN | apply below_drew1) | exact HB.out)) hb); have n1_ := Aside0.mk (hbox); have n2_ := Aside0.mk ((by rw [hg]; exact (below_size (by repeat (first | (with_reducible first | exact HB.out | apply below_alloc | apply pw_below_drewN | apply below_drew1) | exact HB.out))) : w.heap.size ≤ gb183)); have n3_ := Aside0.mk ((by rw [hg]; exact (below_size (by repeat (first | (with_reducible first | exact HB.out | apply below_alloc | apply pw_below_drewN | apply below_drew1) | exact HB.out))) : w.heap.size ≤ gb183)); clear HB; have HB := n0_; have BK183 := n1_; have GW183 := n2_; have GE183 := n3_; clear n0_ n1_ n2_ n3_; clear hb hbox hg; have hcz44_0 : w43.cell? ⟨gb183, 0, none⟩ = some (.string (⟨#[]⟩ : ByteArray)) := (blk_cell BK183.out 0).trans rfl; have hcz44_1 : w43.cell? ⟨gb183, 1, none⟩ = some (.string (⟨#[]⟩ : ByteArray)) := (blk_cell BK183.out 1).trans rfl; have hfz44_0 := blk_frozen BK183.out 0; have hfz44_1 := blk_frozen BK183.out 1) | ((with_reducible refine gate_callee (f := 13) rfl ?_); refine goesL_ (some 22) rfl rfl Tryz.func13 (by kernel_rfl) rfl #[.string ((rd_T25 l1 x6_1).f0)] rfl (by (try simp only [List.map_toArray, List.map_cons, List.map_nil]); first | done | rfl | (simp only [List.length_drop, List.length_take]; rfl)) ?_; (with_reducible refine (missiveref09_Token.calls k1 ((rd_T25 l1 x6_1).f0) false _ A5.out).mono ?_); rintro e w' ⟨rfl, ⟨nd, rfl⟩⟩; refine ⟨_, rfl, ?_⟩))
            go_roundg k1
            case measure => have := HK1.out; omega
            case rel => exact ⟨(x5_1), (wrap64 (x6_1 + 1)), (by first | rfl | (simp; done) | (simp [*]; done)), (by first | rfl | (simp; done) | (simp [*]; done)), H', ⟨by have := HK1.out; omega⟩, ⟨by repeat (first | (with_reducible first | exact HB.out | apply below_alloc | apply pw_below_drewN | apply below_drew1 | refine below_set ?_ GE183.out) | exact HB.out)⟩⟩
        · rw [if_neg c4] at H
          exact absurd H (by simp)
      · rw [if_neg c3] at H
        have c3b0 : decide (x6_1 < (l1.length : Int)) = false := decide_eq_false c3
        clear c3
        obtain rfl := Option.some.inj H
        go_wp2
        go_ret
        exact ⟨by first | rfl | (simp [errW_none, errW_some]; done) | (simp [errW_none, errW_some]; exact isEmpty_nbne _) | (simp [errW_none, errW_some]; exact isEmpty_bne _) | (simp [errW_none, errW_some] <;> rfl) | (simp [*, errW_none, errW_some] <;> rfl), by repeat (first | (with_reducible first | exact HB.out | apply below_alloc | apply pw_below_drewN | apply below_drew1) | exact HB.out)⟩
end Go.Proofs.YtieompfmhnpnaaaGreat.H
namespace Go.Proofs.YtieompfmhnpnaaaGreat.H
open Go.RowKit Go.Proofs.YtieompfmhnpnaaaGreatW.PrintWords Go.Proofs.YtieompfmhnpnaaaGreatW.PrintLast Go.Proofs.YtieompfmhnpnaaaGreatW.PrintMore
attribute [local go_sem] max2_int min2_int max_two min_two max_three min_three max_four min_four
set_option linter.unusedVariables false
set_option linter.unusedSimpArgs false
mutual
def missiveref09_Params.l0 : Nat → List ByteArray → List (S25) → Int → Option (ByteArray × (List (S25)))
  | 0, _, _, _ => none
  | k + 1, x4, x5, x6 => if x6 < (x4.length : Int) then (missiveref09_Params.l1 k x4 x5 x6 0) else (if 0 < (x4.length : Int) then ((missiveref01_Trim.f k (rdOf ByteArray.empty x4 0)).bind fun t166 => (some (t166, x5))) else (none))
def missiveref09_Params.j2 : Nat → List ByteArray → List (S25) → Int → Int → Option (ByteArray × (List (S25)))
  | 0, _, _, _, _ => none
  | k + 1, x4, x5, x6, x7 => if 0 ≤ x6 then (if x6 < (x4.length : Int) then (if x7 = ((rdOf ByteArray.empty x4 x6).size : Int) then (missiveref09_Params.l0 k x4 x5 (wrap64 (x6 + 1))) else (if 0 ≤ x7 then (if x7 ≤ ((rdOf ByteArray.empty x4 x6).size : Int) then ((missiveref01_Trim.f k ((rdOf ByteArray.empty x4 x6).extract 0 (x7 : Int).toNat)).bind fun t171 => ((missiveref01_Lower.f t171).bind fun t172 => (if 0 ≤ (wrap64 (x7 + 1)) then (if (wrap64 (x7 + 1)) ≤ ((rdOf ByteArray.empty x4 x6).size : Int) then ((missiveref01_Trim.f k ((rdOf ByteArray.empty x4 x6).extract ((wrap64 (x7 + 1)) : Int).toNat (rdOf ByteArray.empty x4 x6).size)).bind fun t174 => ((missiveref09_value.f k t174).bind fun bt175 => (missiveref09_Params.l2 k x4 x5 x6 t172 bt175.1 bt175.2 0))) else (none)) else (none)))) else (none)) else (none))) else (none)) else (none)
def missiveref09_Params.l2 : Nat → List ByteArray → List (S25) → Int → ByteArray → ByteArray → Bool → Int → Option (ByteArray × (List (S25)))
  | 0, _, _, _, _, _, _, _ => none
  | k + 1, x4, x5, x6, x8, x9, x10, x11 => if x11 < (x5.length : Int) then (if x10 = true then (if 0 ≤ x11 then (missiveref09_Params.l2 k x4 x5 x6 x8 x9 (((rd_T25 x5 x11).f0).toList != x8.toList) (wrap64 (x11 + 1))) else (none)) else (missiveref09_Params.l2 k x4 x5 x6 x8 x9 false (wrap64 (x11 + 1)))) else (if x10 = true then ((missiveref09_Token.f k x8).bind fun t178 => (if t178 = true then (if x5.length < 4398046511104 then (missiveref09_Params.l0 k x4 (x5 ++ [(⟨x8, x9⟩ : S25)]) (wrap64 (x6 + 1))) else (none)) else (missiveref09_Params.l0 k x4 x5 (wrap64 (x6 + 1))))) else (missiveref09_Params.l0 k x4 x5 (wrap64 (x6 + 1))))
def missiveref09_Params.l1 : Nat → List ByteArray → List (S25) → Int → Int → Option (ByteArray × (List (S25)))
  | 0, _, _, _, _ => none
  | k + 1, x4, x5, x6, x7 => if 0 ≤ x6 then (if x6 < (x4.length : Int) then (if x7 < ((rdOf ByteArray.empty x4 x6).size : Int) then (if 0 ≤ x7 then (if (bt (rdOf ByteArray.empty x4 x6) x7) = 61 then (missiveref09_Params.j2 k x4 x5 x6 x7) else (missiveref09_Params.l1 k x4 x5 x6 (wrap64 (x7 + 1)))) else (none)) else (missiveref09_Params.j2 k x4 x5 x6 x7)) else (none)) else (none)
end
def missiveref09_Params.f (k : Nat) (a0 : ByteArray) : Option (ByteArray × (List (S25))) := (missiveref09_Pieces.f k a0).bind fun t162 => (missiveref09_Params.l0 k t162 ([] : List (S25)) 1)
theorem missiveref09_Params.mono_l : ∀ k, (∀ y0 y1 y2, LeO (missiveref09_Params.l0 k y0 y1 y2) (missiveref09_Params.l0 (k + 1) y0 y1 y2)) ∧ (∀ y0 y1 y2 y3, LeO (missiveref09_Params.j2 k y0 y1 y2 y3) (missiveref09_Params.j2 (k + 1) y0 y1 y2 y3)) ∧ (∀ y0 y1 y2 y3 y4 y5 y6, LeO (missiveref09_Params.l2 k y0 y1 y2 y3 y4 y5 y6) (missiveref09_Params.l2 (k + 1) y0 y1 y2 y3 y4 y5 y6)) ∧ (∀ y0 y1 y2 y3, LeO (missiveref09_Params.l1 k y0 y1 y2 y3) (missiveref09_Params.l1 (k + 1) y0 y1 y2 y3))
  | 0 => ⟨fun _ _ _ r h => by simp [missiveref09_Params.l0] at h, fun _ _ _ _ r h => by simp [missiveref09_Params.j2] at h, fun _ _ _ _ _ _ _ r h => by simp [missiveref09_Params.l2] at h, fun _ _ _ _ r h => by simp [missiveref09_Params.l1] at h⟩
  | k + 1 => by
    obtain ⟨ih0, ih1, ih2, ih3⟩ := missiveref09_Params.mono_l k
    refine ⟨?_, ?_, ?_, ?_⟩
    · intro y0 y1 y2
      unfold missiveref09_Params.l0
      repeat' first
      | (with_reducible exact ih0 _ _ _)
      | (with_reducible exact ih1 _ _ _ _)
      | (with_reducible exact ih2 _ _ _ _ _ _ _)
      | (with_reducible exact ih3 _ _ _ _)
      | (with_reducible exact missiveref01_Trim.mono _ _)
      | (with_reducible exact missiveref09_Pieces.mono _ _)
      | (with_reducible exact missiveref09_Token.mono _ _)
      | (with_reducible exact missiveref09_value.mono _ _)
      | (with_reducible exact LeO.refl _)
      | (with_reducible exact LeO.none _)
      | (with_reducible refine LeO.ite ?_ ?_)
      | (with_reducible refine LeO.bind ?_ (fun _ => ?_))
      | exact ih0 _ _ _
      | exact ih1 _ _ _ _
      | exact ih2 _ _ _ _ _ _ _
      | exact ih3 _ _ _ _
      | exact missiveref01_Trim.mono _ _
      | exact missiveref09_Pieces.mono _ _
      | exact missiveref09_Token.mono _ _
      | exact missiveref09_value.mono _ _
      | exact LeO.none _
      | refine LeO.ite ?_ ?_
      | refine LeO.bind ?_ (fun _ => ?_)
    · intro y0 y1 y2 y3
      unfold missiveref09_Params.j2
      repeat' first
      | (with_reducible exact ih0 _ _ _)
      | (with_reducible exact ih1 _ _ _ _)
      | (with_reducible exact ih2 _ _ _ _ _ _ _)
      | (with_reducible exact ih3 _ _ _ _)
      | (with_reducible exact missiveref01_Trim.mono _ _)
      | (with_reducible exact missiveref09_Pieces.mono _ _)
      | (with_reducible exact missiveref09_Token.mono _ _)
      | (with_reducible exact missiveref09_value.mono _ _)
      | (with_reducible exact LeO.refl _)
      | (with_reducible exact LeO.none _)
      | (with_reducible refine LeO.ite ?_ ?_)
      | (with_reducible refine LeO.bind ?_ (fun _ => ?_))
      | exact ih0 _ _ _
      | exact ih1 _ _ _ _
      | exact ih2 _ _ _ _ _ _ _
      | exact ih3 _ _ _ _
      | exact missiveref01_Trim.mono _ _
      | exact missiveref09_Pieces.mono _ _
      | exact missiveref09_Token.mono _ _
      | exact missiveref09_value.mono _ _
      | exact LeO.none _
      | refine LeO.ite ?_ ?_
      | refine LeO.bind ?_ (fun _ => ?_)
    · intro y0 y1 y2 y3 y4 y5 y6
      unfold missiveref09_Params.l2
      repeat' first
      | (with_reducible exact ih0 _ _ _)
      | (with_reducible exact ih1 _ _ _ _)
      | (with_reducible exact ih2 _ _ _ _ _ _ _)
      | (with_reducible exact ih3 _ _ _ _)
      | (with_reducible exact missiveref01_Trim.mono _ _)
      | (with_reducible exact missiveref09_Pieces.mono _ _)
      | (with_reducible exact missiveref09_Token.mono _ _)
      | (with_reducible exact missiveref09_value.mono _ _)
      | (with_reducible exact LeO.refl _)
      | (with_reducible exact LeO.none _)
      | (with_reducible refine LeO.ite ?_ ?_)
      | (with_reducible refine LeO.bind ?_ (fun _ => ?_))
      | exact ih0 _ _ _
      | exact ih1 _ _ _ _
      | exact ih2 _ _ _ _ _ _ _
      | exact ih3 _ _ _ _
      | exact missiveref01_Trim.mono _ _
      | exact missiveref09_Pieces.mono _ _
      | exact missiveref09_Token.mono _ _
      | exact missiveref09_value.mono _ _
      | exact LeO.none _
      | refine LeO.ite ?_ ?_
      | refine LeO.bind ?_ (fun _ => ?_)
    · intro y0 y1 y2 y3
      unfold missiveref09_Params.l1
      repeat' first
      | (with_reducible exact ih0 _ _ _)
      | (with_reducible exact ih1 _ _ _ _)
      | (with_reducible exact ih2 _ _ _ _ _ _ _)
      | (with_reducible exact ih3 _ _ _ _)
      | (with_reducible exact missiveref01_Trim.mono _ _)
      | (with_reducible exact missiveref09_Pieces.mono _ _)
      | (with_reducible exact missiveref09_Token.mono _ _)
      | (with_reducible exact missiveref09_value.mono _ _)
      | (with_reducible exact LeO.refl _)
      | (with_reducible exact LeO.none _)
      | (with_reducible refine LeO.ite ?_ ?_)
      | (with_reducible refine LeO.bind ?_ (fun _ => ?_))
      | exact ih0 _ _ _
      | exact ih1 _ _ _ _
      | exact ih2 _ _ _ _ _ _ _
      | exact ih3 _ _ _ _
      | exact missiveref01_Trim.mono _ _
      | exact missiveref09_Pieces.mono _ _
      | exact missiveref09_Token.mono _ _
      | exact missiveref09_value.mono _ _
      | exact LeO.none _
      | refine LeO.ite ?_ ?_
      | refine LeO.bind ?_ (fun _ => ?_)
theorem missiveref09_Params.mono : ∀ a0 k, LeO (missiveref09_Params.f k a0) (missiveref09_Params.f (k + 1) a0) := by
  intro a0 k
  obtain ⟨ih0, ih1, ih2, ih3⟩ := missiveref09_Params.mono_l k
  unfold missiveref09_Params.f
  repeat' first
      | (with_reducible exact ih0 _ _ _)
      | (with_reducible exact ih1 _ _ _ _)
      | (with_reducible exact ih2 _ _ _ _ _ _ _)
      | (with_reducible exact ih3 _ _ _ _)
      | (with_reducible exact missiveref01_Trim.mono _ _)
      | (with_reducible exact missiveref09_Pieces.mono _ _)
      | (with_reducible exact missiveref09_Token.mono _ _)
      | (with_reducible exact missiveref09_value.mono _ _)
      | (with_reducible exact LeO.refl _)
      | (with_reducible exact LeO.none _)
      | (with_reducible refine LeO.ite ?_ ?_)
      | (with_reducible refine LeO.bind ?_ (fun _ => ?_))
      | exact ih0 _ _ _
      | exact ih1 _ _ _ _
      | exact ih2 _ _ _ _ _ _ _
      | exact ih3 _ _ _ _
      | exact missiveref01_Trim.mono _ _
      | exact missiveref09_Pieces.mono _ _
      | exact missiveref09_Token.mono _ _
      | exact missiveref09_value.mono _ _
      | exact LeO.none _
      | refine LeO.ite ?_ ?_
      | refine LeO.bind ?_ (fun _ => ?_)
set_option maxHeartbeats 8000000 in
set_option maxRecDepth 100000 in
theorem missiveref09_Params.calls (k : Nat) (a0 : ByteArray) (r1 : ByteArray) (r2 : List (S25)) (w : World) (h : missiveref09_Params.f k a0 = some (r1, r2)) :
    Calls Tryz.prog 12 #[.string a0] w fun e w' => ∃ v1_ : Value, e = .returned (.tuple #[.string r1, v1_]) ∧ Kd.R k25 25 w' w.heap.size (fun _ => True) v1_ r2 ∧ Below w.heap.size w w' := by
  have hu25 := Tryz.underlying25
  have HB := Aside0.mk (Below.refl w.heap.size w)
  have H : ((missiveref09_Pieces.f k a0).bind fun t162 => (missiveref09_Params.l0 k t162 ([] : List (S25)) 1)) = some (r1, r2) := h
  clear h
  replace H := Option.bind_eq_some_iff.mp H
  obtain ⟨t162, A20, H⟩ := H
  replace H : (missiveref09_Params.l0 k t162 ([] : List (S25)) 1) = some (r1, r2) := H
  have A2 := Aside0.mk A20
  clear A20
  have H' := Aside0.mk H
  clear H
  go_enter Tryz.func12, Tryz.ntmps12
  go_wp2_with (first | ((with_reducible refine gate_callee (f := 43) rfl ?_); refine goesL_ (some 13) rfl rfl Tryz.func43 (by kernel_rfl) rfl #[.string a0] rfl (by (try simp only [List.map_toArray, List.map_cons, List.map_nil]); first | done | rfl | (simp only [List.length_drop, List.length_take]; rfl)) ?_; (with_reducible refine (missiveref09_Pieces.calls k a0 t162 _ A2.out).mono ?_); rintro e w3 ⟨v163, rfl, ho0, hb⟩; refine ⟨_, rfl, ?_⟩; have n0_ := Aside0.mk (Kd.R_lower ho0 (below_size (by repeat (first | (with_reducible first | exact HB.out | apply below_alloc | apply pw_below_drewN | apply below_drew1) | exact HB.out)))); have n1_ := Aside0.mk (below_step (by repeat (first | (with_reducible first | exact HB.out | apply below_alloc | apply pw_below_drewN | apply below_drew1) | exact HB.out)) hb); clear HB; have HO164 := n0_; have HB := n1_; clear n0_ n1_; (try clear hb); (try clear hb2); (try clear hk); (try clear hi); (try clear ho0)))
  go_loopg [5, 6] k (fun kq v5 v6 w' => ∃ (x5_1 : List (S25)) (x6_1 : Int), v6 = .int .i64 x6_1 ∧ Aside0 (missiveref09_Params.l0 kq t162 x5_1 x6_1 = some (r1, r2)) ∧ Aside0 (kq ≤ k) ∧ Aside0 (Kd.R Kd.string 9 w' w.heap.size (fun _ => True) v163 t162) ∧ Aside0 (Kd.R k25 25 w' w.heap.size (fun _ => True) v5 x5_1) ∧ Aside0 (Below w.heap.size w w'))
  case atStart => exact ⟨(([] : List (S25))), (1), (by first | rfl | (simp; done) | (simp [*]; done)), H', ⟨Nat.le_refl _⟩, ⟨by (with_reducible repeat (first | apply Kd.R_alloc | apply Kd.R_drewN | apply Kd.R_drew)); exact HO164.out⟩, ⟨by first | exact Kd.R_nil _ _ _ _ _ | exact Kd.N_nil _ _ _ _ _ | exact Kd.V_nil _ _ _ _ _ | exact Kd.Q_nil _ _ _ _ _ | exact Kd.S_nil _ _ _ _ _⟩, ⟨by repeat (first | (with_reducible first | exact HB.out | apply below_alloc | apply pw_below_drewN | apply below_drew1) | exact HB.out)⟩⟩
  case round =>
    clear H'
    try clear c1
    try clear p2
    obtain ⟨x5_1, x6_1, rfl, HA, HK1, HO_4, HO_5, HB⟩ := hrel
    cases gk with
    | zero => exact absurd HA.out (by simp [missiveref09_Params.l0])
    | succ k1 =>
      have H := HA.out
      clear HA
      simp only [missiveref09_Params.l0] at H
      by_cases c4 : x6_1 < (t162.length : Int)
      · rw [if_pos c4] at H
        have c4b0 : decide (x6_1 < (t162.length : Int)) = true := decide_eq_true c4
        clear c4
        have HC5 := Aside0.mk H
        clear H
        obtain ⟨Ao6, co6, eo6⟩ := Kd.R_slice HO_4.out
        subst eo6
        go_upto_block 2 with (fail)
        go_cut [7] (fun v7 wc => ∃ (kq : Nat) (x7_4 : Int), v7 = .int .i64 x7_4 ∧ Aside0 (missiveref09_Params.j2 kq t162 x5_1 x6_1 x7_4 = some (r1, r2)) ∧ Aside0 (kq ≤ k1) ∧ Aside0 (Kd.R Kd.string 9 wc w.heap.size (fun _ => True) (.slice Ao6 t162.length co6) t162) ∧ Aside0 (Kd.R k25 25 wc w.heap.size (fun _ => True) u5 x5_1) ∧ Aside0 (Below w.heap.size w wc))
        case first =>
          have H := HC5.out
          clear HC5
          have H' := Aside0.mk H
          clear H
          go_wp2
          go_loopg [7] k1 (fun kq v7 w' => ∃ (x7_2 : Int), v7 = .int .i64 x7_2 ∧ Aside0 (missiveref09_Params.l1 kq t162 x5_1 x6_1 x7_2 = some (r1, r2)) ∧ Aside0 (kq ≤ k1) ∧ Aside0 (Kd.R Kd.string 9 w' w.heap.size (fun _ => True) (.slice Ao6 t162.length co6) t162) ∧ Aside0 (Kd.R k25 25 w' w.heap.size (fun _ => True) u5 x5_1) ∧ Aside0 (Below w.heap.size w w'))
          case atStart => exact ⟨(0), (by first | rfl | (simp; done) | (simp [*]; done)), H', ⟨Nat.le_refl _⟩, ⟨by (with_reducible repeat (first | apply Kd.R_alloc | apply Kd.R_drewN | apply Kd.R_drew)); exact HO_4.out⟩, ⟨by (with_reducible repeat (first | apply Kd.R_alloc | apply Kd.R_drewN | apply Kd.R_drew)); exact HO_5.out⟩, ⟨by repeat (first | (with_reducible first | exact HB.out | apply below_alloc | apply pw_below_drewN | apply below_drew1) | exact HB.out)⟩⟩
          case round =>
            clear H'
            try clear c1
            try clear p2
            try clear c4
            try clear c4b0
            try clear p2
            obtain ⟨x7_2, rfl, HA, HK2, HO_4, HO_5, HB⟩ := hrel
            cases gk with
            | zero => exact absurd HA.out (by simp [missiveref09_Params.l1])
            | succ k2 =>
              have H := HA.out
              clear HA
              simp only [missiveref09_Params.l1] at H
              by_cases c7 : 0 ≤ x6_1
              · rw [if_pos c7] at H
                have c7b0 : decide (0 ≤ x6_1) = true := decide_eq_true c7
                clear c7
                (first | rw [c7b0] | (simp only [i64_w, i32_w]; rw [c7b0]) | skip)
                by_cases c8 : x6_1 < (t162.length : Int)
                · rw [if_pos c8] at H
                  have c8b0 : decide (x6_1 < (t162.length : Int)) = true := decide_eq_true c8
                  clear c8
                  by_cases c9 : x7_2 < ((rdOf ByteArray.empty t162 x6_1).size : Int)
                  · rw [if_pos c9] at H
                    have c9b0 : decide (x7_2 < ((rdOf ByteArray.empty t162 x6_1).size : Int)) = true := decide_eq_true c9
                    clear c9
                    by_cases c10 : 0 ≤ x7_2
                    · rw [if_pos c10] at H
                      have c10b0 : decide (0 ≤ x7_2) = true := decide_eq_true c10
                      clear c10
                      by_cases c12 : (bt (rdOf ByteArray.empty t162 x6_1) x7_2) = 61
                      · rw [if_pos c12] at H
                        have c12b0 : ((bt (rdOf ByteArray.empty t162 x6_1) x7_2) == 61) = true := beq_iff_eq.mpr c12
                        have c12b1 : ((bt (rdOf ByteArray.empty t162 x6_1) x7_2) != 61) = false := bne_eq_false_iff_eq.mpr c12
                        clear c12
                        have H' := Aside0.mk H
                        clear H
                        have p167 : 0 ≤ (x6_1 : Int) := of_decide_eq_true (by first | (with_reducible assumption) | assumption)
                        have q167 : x6_1 < (t162.length : Int) := of_decide_eq_true (by first | (with_reducible assumption) | assumption)
                        obtain ⟨ad167, e167, hx167_0⟩ := Kd.at_string (Kd.R_reads' HO_4.out).2.2 x6_1 p167 q167
                        cases e167
                        replace p167 := eq_true p167
                        replace q167 := eq_true q167
                        have p168 : 0 ≤ (x6_1 : Int) := of_decide_eq_true (by first | (with_reducible assumption) | assumption)
                        have q168 : x6_1 < (t162.length : Int) := of_decide_eq_true (by first | (with_reducible assumption) | assumption)
                        obtain ⟨ad168, e168, hx168_0⟩ := Kd.at_string (Kd.R_reads' HO_4.out).2.2 x6_1 p168 q168
                        obtain rfl : ad167 = ad168 := (by injection e168)
                        replace p168 := eq_true p168
                        replace q168 := eq_true q168
                        have p11 : 0 ≤ (x7_2 : Int) := of_decide_eq_true (by first | (with_reducible assumption) | assumption)
                        have q11 : x7_2 < ((rdOf ByteArray.empty t162 x6_1).size : Int) := of_decide_eq_true (by first | (with_reducible assumption) | assumption)
                        have hx11 := bt_at (rdOf ByteArray.empty t162 x6_1) x7_2
                        replace p11 := eq_true p11
                        replace q11 := eq_true q11
                        go_wp2
                        go_meet
                        case rel => exact ⟨_, (x7_2), (by first | rfl | (simp; done) | (simp [*]; done)), H', ⟨by have := HK1.out; have := HK2.out; first | omega | exact Nat.le_refl _⟩, ⟨by (with_reducible repeat (first | apply Kd.R_alloc | apply Kd.R_drewN | apply Kd.R_drew)); exact HO_4.out⟩, ⟨by (with_reducible repeat (first | apply Kd.R_alloc | apply Kd.R_drewN | apply Kd.R_drew)); exact HO_5.out⟩, ⟨by repeat (first | (with_reducible first | exact HB.out | apply below_alloc | apply pw_below_drewN | apply below_drew1) | exact HB.out)⟩⟩
                      · rw [if_neg c12] at H
                        have c12b0 : ((bt (rdOf ByteArray.empty t162 x6_1) x7_2) == 61) = false := beq_eq_false_iff_ne.mpr c12
                        have c12b1 : ((bt (rdOf ByteArray.empty t162 x6_1) x7_2) != 61) = true := bne_iff_ne.mpr c12
                        have H' := Aside0.mk H
                        clear H
                        have p167 : 0 ≤ (x6_1 : Int) := of_decide_eq_true (by first | (with_reducible assumption) | assumption)
                        have q167 : x6_1 < (t162.length : Int) := of_decide_eq_true (by first | (with_reducible assumption) | assumption)
                        obtain ⟨ad167, e167, hx167_0⟩ := Kd.at_string (Kd.R_reads' HO_4.out).2.2 x6_1 p167 q167
                        cases e167
                        replace p167 := eq_true p167
                        replace q167 := eq_true q167
                        have p168 : 0 ≤ (x6_1 : Int) := of_decide_eq_true (by first | (with_reducible assumption) | assumption)
                        have q168 : x6_1 < (t162.length : Int) := of_decide_eq_true (by first | (with_reducible assumption) | assumption)
                        obtain ⟨ad168, e168, hx168_0⟩ := Kd.at_string (Kd.R_reads' HO_4.out).2.2 x6_1 p168 q168
                        obtain rfl : ad167 = ad168 := (by injection e168)
                        replace p168 := eq_true p168
                        replace q168 := eq_true q168
                        have p11 : 0 ≤ (x7_2 : Int) := of_decide_eq_true (by first | (with_reducible assumption) | assumption)
                        have q11 : x7_2 < ((rdOf ByteArray.empty t162 x6_1).size : Int) := of_decide_eq_true (by first | (with_reducible assumption) | assumption)
                        have hx11 := bt_at (rdOf ByteArray.empty t162 x6_1) x7_2
                        replace p11 := eq_true p11
                        replace q11 := eq_true q11
                        go_wp2
                        go_roundg k2
                        case measure => have := HK1.out; have := HK2.out; omega
                        case rel => exact ⟨(wrap64 (x7_2 + 1)), (by first | rfl | (simp; done) | (simp [*]; done)), H', ⟨by have := HK1.out; have := HK2.out; omega⟩, ⟨by (with_reducible repeat (first | apply Kd.R_alloc | apply Kd.R_drewN | apply Kd.R_drew)); exact HO_4.out⟩, ⟨by (with_reducible repeat (first | apply Kd.R_alloc | apply Kd.R_drewN | apply Kd.R_drew)); exact HO_5.out⟩, ⟨by repeat (first | (with_reducible first | exact HB.out | apply below_alloc | apply pw_below_drewN | apply below_drew1) | exact HB.out)⟩⟩
                    · rw [if_neg c10] at H
                      exact absurd H (by simp)
                  · rw [if_neg c9] at H
                    have c9b0 : decide (x7_2 < ((rdOf ByteArray.empty t162 x6_1).size : Int)) = false := decide_eq_false c9
                    clear c9
                    have H' := Aside0.mk H
                    clear H
                    have p167 : 0 ≤ (x6_1 : Int) := of_decide_eq_true (by first | (with_reducible assumption) | assumption)
                    have q167 : x6_1 < (t162.length : Int) := of_decide_eq_true (by first | (with_reducible assumption) | assumption)
                    obtain ⟨ad167, e167, hx167_0⟩ := Kd.at_string (Kd.R_reads' HO_4.out).2.2 x6_1 p167 q167
                    cases e167
                    replace p167 := eq_true p167
                    replace q167 := eq_true q167
                    go_wp2
                    go_meet
                    case rel => exact ⟨_, (x7_2), (by first | rfl | (simp; done) | (simp [*]; done)), H', ⟨by have := HK1.out; have := HK2.out; first | omega | exact Nat.le_refl _⟩, ⟨by (with_reducible repeat (first | apply Kd.R_alloc | apply Kd.R_drewN | apply Kd.R_drew)); exact HO_4.out⟩, ⟨by (with_reducible repeat (first | apply Kd.R_alloc | apply Kd.R_drewN | apply Kd.R_drew)); exact HO_5.out⟩, ⟨by repeat (first | (with_reducible first | exact HB.out | apply below_alloc | apply pw_below_drewN | apply below_drew1) | exact HB.out)⟩⟩
                · rw [if_neg c8] at H
                  exact absurd H (by simp)
              · rw [if_neg c7] at H
                exact absurd H (by simp)
        case rest =>
          clear HC5
          try clear c1
          try clear p1
          try clear q1
          try clear hx1
          try clear p2
          try clear c4
          try clear c4b0
          try clear p6
          try clear c7
          try clear c7b0
          try clear c8
          try clear c8b0
          try clear c9
          try clear c9b0
          try clear c10
          try clear c10b0
          try clear p11
          try clear q11
          try clear hx11
          try clear c12
          try clear c12b0
          try clear c12b1
          try clear hx167_0
          try clear hx168_0
          try clear p11
          try clear p167
          try clear p168
          try clear p2
          try clear q11
          try clear q167
          try clear q168
          obtain ⟨kq, x7_4, rfl, HA, HJ4, HO_4, HO_5, HB⟩ := hcut
          cases kq with
          | zero => exact absurd HA.out (by simp [missiveref09_Params.j2])
          | succ kj4 =>
            have H := HA.out
            clear HA
            simp only [missiveref09_Params.j2] at H
            by_cases c13 : 0 ≤ x6_1
            · rw [if_pos c13] at H
              have c13b0 : decide (0 ≤ x6_1) = true := decide_eq_true c13
              clear c13
              by_cases c14 : x6_1 < (t162.length : Int)
              · rw [if_pos c14] at H
                have c14b0 : decide (x6_1 < (t162.length : Int)) = true := decide_eq_true c14
                clear c14
                by_cases c15 : x7_4 = ((rdOf ByteArray.empty t162 x6_1).size : Int)
                · rw [if_pos c15] at H
                  have c15b0 : (x7_4 == ((rdOf ByteArray.empty t162 x6_1).size : Int)) = true := beq_iff_eq.mpr c15
                  have c15b1 : (x7_4 != ((rdOf ByteArray.empty t162 x6_1).size : Int)) = false := bne_eq_false_iff_eq.mpr c15
                  clear c15
                  have H' := Aside0.mk H
                  clear H
                  have p169 : 0 ≤ (x6_1 : Int) := of_decide_eq_true (by first | (with_reducible assumption) | assumption)
                  have q169 : x6_1 < (t162.length : Int) := of_decide_eq_true (by first | (with_reducible assumption) | assumption)
                  obtain ⟨ad169, e169, hx169_0⟩ := Kd.at_string (Kd.R_reads' HO_4.out).2.2 x6_1 p169 q169
                  cases e169
                  replace p169 := eq_true p169
                  replace q169 := eq_true q169
                  go_wp2
                  go_roundg kj4
                  case measure => have := HK1.out; have := HJ4.out; omega
                  case rel => exact ⟨(x5_1), (wrap64 (x6_1 + 1)), (by first | rfl | (simp; done) | (simp [*]; done)), H', ⟨by have := HK1.out; have := HJ4.out; omega⟩, ⟨by (with_reducible repeat (first | apply Kd.R_alloc | apply Kd.R_drewN | apply Kd.R_drew)); exact HO_4.out⟩, ⟨by (with_reducible repeat (first | apply Kd.R_alloc | apply Kd.R_drewN | apply Kd.R_drew)); exact HO_5.out⟩, ⟨by repeat (first | (with_reducible first | exact HB.out | apply below_alloc | apply pw_below_drewN | apply below_drew1) | exact HB.out)⟩⟩
                · rw [if_neg c15] at H
                  have c15b0 : (x7_4 == ((rdOf ByteArray.empty t162 x6_1).size : Int)) = false := beq_eq_false_iff_ne.mpr c15
                  have c15b1 : (x7_4 != ((rdOf ByteArray.empty t162 x6_1).size : Int)) = true := bne_iff_ne.mpr c15
                  by_cases c16 : 0 ≤ x7_4
                  · rw [if_pos c16] at H
                    have c16b0 := eq_true c16
                    have c16b1 : decide (0 ≤ x7_4) = true := decide_eq_true c16
                    clear c16
                    by_cases c17 : x7_4 ≤ ((rdOf ByteArray.empty t162 x6_1).size : Int)
                    · rw [if_pos c17] at H
                      have c17b0 := eq_true c17
                      have c17b1 : decide (x7_4 ≤ ((rdOf ByteArray.empty t162 x6_1).size : Int)) = true := decide_eq_true c17
                      clear c17
                      replace H := Option.bind_eq_some_iff.mp H
                      obtain ⟨t171, A180, H⟩ := H
                      replace H : ((missiveref01_Lower.f t171).bind fun t172 => (if 0 ≤ (wrap64 (x7_4 + 1)) then (if (wrap64 (x7_4 + 1)) ≤ ((rdOf ByteArray.empty t162 x6_1).size : Int) then ((missiveref01_Trim.f kj4 ((rdOf ByteArray.empty t162 x6_1).extract ((wrap64 (x7_4 + 1)) : Int).toNat (rdOf ByteArray.empty t162 x6_1).size)).bind fun t174 => ((missiveref09_value.f kj4 t174).bind fun bt175 => (missiveref09_Params.l2 kj4 t162 x5_1 x6_1 t172 bt175.1 bt175.2 0))) else (none)) else (none))) = some (r1, r2) := H
                      have A18 := Aside0.mk A180
                      clear A180
                      replace H := Option.bind_eq_some_iff.mp H
                      obtain ⟨t172, A190, H⟩ := H
                      replace H : (if 0 ≤ (wrap64 (x7_4 + 1)) then (if (wrap64 (x7_4 + 1)) ≤ ((rdOf ByteArray.empty t162 x6_1).size : Int) then ((missiveref01_Trim.f kj4 ((rdOf ByteArray.empty t162 x6_1).extract ((wrap64 (x7_4 + 1)) : Int).toNat (rdOf ByteArray.empty t162 x6_1).size)).bind fun t174 => ((missiveref09_value.f kj4 t174).bind fun bt175 => (missiveref09_Params.l2 kj4 t162 x5_1 x6_1 t172 bt175.1 bt175.2 0))) else (none)) else (none)) = some (r1, r2) := H
                      have A19 := Aside0.mk A190
                      clear A190
                      obtain ⟨ji20, hji20⟩ : ∃ j_ : Int, (wrap64 (x7_4 + 1)) = j_ := ⟨_, rfl⟩
                      replace H : (if 0 ≤ (ji20) then (if (ji20) ≤ ((rdOf ByteArray.empty t162 x6_1).size : Int) then ((missiveref01_Trim.f kj4 ((rdOf ByteArray.empty t162 x6_1).extract ((ji20) : Int).toNat (rdOf ByteArray.empty t162 x6_1).size)).bind fun t174 => ((missiveref09_value.f kj4 t174).bind fun bt175 => (missiveref09_Params.l2 kj4 t162 x5_1 x6_1 t172 bt175.1 bt175.2 0))) else (none)) else (none)) = some (r1, r2) := by first | (rw [hji20] at H; exact H) | (simp only [hji20] at H ⊢; exact H)
                      (try rw [hji20] at A18)
                      (try rw [hji20] at A19)
                      have hji20w : (IntKind.i64.wrap (x7_4 + 1)) = ji20 := (i64_w _).trans hji20
                      by_cases c21 : 0 ≤ (ji20)
                      · rw [if_pos c21] at H
                        have c21b0 := eq_true c21
                        have c21b1 : decide (0 ≤ (ji20)) = true := decide_eq_true c21
                        clear c21
                        by_cases c22 : (ji20) ≤ ((rdOf ByteArray.empty t162 x6_1).size : Int)
                        · rw [if_pos c22] at H
                          have c22b0 := eq_true c22
                          have c22b1 : decide ((ji20) ≤ ((rdOf ByteArray.empty t162 x6_1).size : Int)) = true := decide_eq_true c22
                          clear c22
                          replace H := Option.bind_eq_some_iff.mp H
                          obtain ⟨t174, A230, H⟩ := H
                          replace H : ((missiveref09_value.f kj4 t174).bind fun bt175 => (missiveref09_Params.l2 kj4 t162 x5_1 x6_1 t172 bt175.1 bt175.2 0)) = some (r1, r2) := H
                          have A23 := Aside0.mk A230
                          clear A230
                          replace H := Option.bind_eq_some_iff.mp H
                          obtain ⟨⟨t175, t176⟩, A240, H⟩ := H
                          replace H : (missiveref09_Params.l2 kj4 t162 x5_1 x6_1 t172 t175 t176 0) = some (r1, r2) := H
                          have A24 := Aside0.mk A240
                          clear A240
                          have H' := Aside0.mk H
                          clear H
                          have p169 : 0 ≤ (x6_1 : Int) := of_decide_eq_true (by first | (with_reducible assumption) | assumption)
                          have q169 : x6_1 < (t162.length : Int) := of_decide_eq_true (by first | (with_reducible assumption) | assumption)
                          obtain ⟨ad169, e169, hx169_0⟩ := Kd.at_string (Kd.R_reads' HO_4.out).2.2 x6_1 p169 q169
                          cases e169
                          replace p169 := eq_true p169
                          replace q169 := eq_true q169
                          have p170 : 0 ≤ (x6_1 : Int) := of_decide_eq_true (by first | (with_reducible assumption) | assumption)
                          have q170 : x6_1 < (t162.length : Int) := of_decide_eq_true (by first | (with_reducible assumption) | assumption)
                          obtain ⟨ad170, e170, hx170_0⟩ := Kd.at_string (Kd.R_reads' HO_4.out).2.2 x6_1 p170 q170
                          obtain rfl : ad169 = ad170 := (by injection e170)
                          replace p170 := eq_true p170
                          replace q170 := eq_true q170
                          go_wp2_with (first | ((with_reducible refine gate_callee (f := 45) rfl ?_); refine goesL_ (some 51) rfl rfl Tryz.func45 (by kernel_rfl) rfl #[.string ((rdOf ByteArray.empty t162 x6_1).extract 0 (x7_4 : Int).toNat)] rfl (by (try simp only [List.map_toArray, List.map_cons, List.map_nil]); first | done | rfl | (simp only [List.length_drop, List.length_take]; rfl)) ?_; (with_reducible refine (missiveref01_Trim.calls kj4 ((rdOf ByteArray.empty t162 x6_1).extract 0 (x7_4 : Int).toNat) t171 _ A18.out).mono ?_); rintro e w' ⟨rfl, ⟨nd, rfl⟩⟩; refine ⟨_, rfl, ?_⟩) | ((with_reducible refine gate_callee (f := 44) rfl ?_); refine goesL_ (some 52) rfl rfl Tryz.func44 (by kernel_rfl) rfl #[.string t171] rfl (by (try simp only [List.map_toArray, List.map_cons, List.map_nil]); first | done | rfl | (simp only [List.length_drop, List.length_take]; rfl)) ?_; (with_reducible refine (missiveref01_Lower.calls t171 t172 _ A19.out).mono ?_); rintro e w25 ⟨rfl, hb⟩; refine ⟨_, rfl, ?_⟩; have n0_ := Aside0.mk (Kd.R_below (by (with_reducible repeat (first | apply Kd.R_alloc | apply Kd.R_drewN | apply Kd.R_drew)); exact HO_4.out) hb); have n1_ := Aside0.mk (Kd.R_below (by (with_reducible repeat (first | apply Kd.R_alloc | apply Kd.R_drewN | apply Kd.R_drew)); exact HO_5.out) hb); have n2_ := Aside0.mk (below_step (by repeat (first | (with_reducible first | exact HB.out | apply below_alloc | apply pw_below_drewN | apply below_drew1) | exact HB.out)) hb); clear HO_4; clear HO_5; clear HB; have HO_4 := n0_; have HO_5 := n1_; have HB := n2_; clear n0_ n1_ n2_; (try clear hb); (try clear hb2); (try clear hk); (try clear hi); have p173 : 0 ≤ (x6_1 : Int) := of_decide_eq_true (by first | (with_reducible assumption) | assumption); have q173 : x6_1 < (t162.length : Int) := of_decide_eq_true (by first | (with_reducible assumption) | assumption); obtain ⟨ad173, e173, hx173_0⟩ := Kd.at_string (Kd.R_reads' HO_4.out).2.2 x6_1 p173 q173; obtain rfl : ad169 = ad173 := (by injection e173); replace p173 := eq_true p173; replace q173 := eq_true q173) | ((with_reducible refine gate_callee (f := 45) rfl ?_); refine goesL_ (some 61) rfl rfl Tryz.func45 (by kernel_rfl) rfl #[.string ((rdOf ByteArray.empty t162 x6_1).extract ((ji20) : Int).toNat (rdOf ByteArray.empty t162 x6_1).size)] rfl (by (try simp only [List.map_toArray, List.map_cons, List.map_nil]); first | done | (simp only [hji20]; rfl) | rfl | (simp only [List.length_drop, List.length_take]; rfl)) ?_; (with_reducible refine (missiveref01_Trim.calls kj4 ((rdOf ByteArray.empty t162 x6_1).extract ((ji20) : Int).toNat (rdOf ByteArray.empty t162 x6_1).size) t174 _ A23.out).mono ?_); rintro e w' ⟨rfl, ⟨nd, rfl⟩⟩; refine ⟨_, rfl, ?_⟩) | ((with_reducible refine gate_callee (f := 46) rfl ?_); refine goesL_ (some 62) rfl rfl Tryz.func46 (by kernel_rfl) rfl #[.string t174] rfl (by (try simp only [List.map_toArray, List.map_cons, List.map_nil]); first | done | rfl | (simp only [List.length_drop, List.length_take]; rfl)) ?_; (with_reducible refine (missiveref09_value.calls kj4 t174 t175 t176 _ A24.out).mono ?_); rintro e w' ⟨rfl, ⟨nd, rfl⟩⟩; refine ⟨_, rfl, ?_⟩))
                          go_loopg [10, 11] kj4 (fun kq v10 v11 w' => ∃ (x10_3 : Bool) (x11_3 : Int), v10 = .bool x10_3 ∧ v11 = .int .i64 x11_3 ∧ Aside0 (missiveref09_Params.l2 kq t162 x5_1 x6_1 t172 t175 x10_3 x11_3 = some (r1, r2)) ∧ Aside0 (kq ≤ kj4) ∧ Aside0 (Kd.R Kd.string 9 w' w.heap.size (fun _ => True) (.slice (some ad169) t162.length co6) t162) ∧ Aside0 (Kd.R k25 25 w' w.heap.size (fun _ => True) u5 x5_1) ∧ Aside0 (Below w.heap.size w w'))
                          case atStart => exact ⟨(t176), (0), (by first | rfl | (simp; done) | (simp [*]; done)), (by first | rfl | (simp; done) | (simp [*]; done)), H', ⟨Nat.le_refl _⟩, ⟨by (with_reducible repeat (first | apply Kd.R_alloc | apply Kd.R_drewN | apply Kd.R_drew)); exact HO_4.out⟩, ⟨by (with_reducible repeat (first | apply Kd.R_alloc | apply Kd.R_drewN | apply Kd.R_drew)); exact HO_5.out⟩, ⟨by repeat (first | (with_reducible first | exact HB.out | apply below_alloc | apply pw_below_drewN | apply below_drew1) | exact HB.out)⟩⟩
                          case round =>
                            clear H'
                            try clear c1
                            try clear p1
                            try clear q1
                            try clear hx1
                            try clear c2
                            try clear p2
                            try clear c4
                            try clear c4b0
                            try clear p6
                            try clear c7
                            try clear c7b0
                            try clear c8
                            try clear c8b0
                            try clear c9
                            try clear c9b0
                            try clear c10
                            try clear c10b0
                            try clear p11
                            try clear q11
                            try clear hx11
                            try clear c12
                            try clear c12b0
                            try clear c12b1
                            try clear c13
                            try clear c13b0
                            try clear c14
                            try clear c14b0
                            try clear c15
                            try clear c15b0
                            try clear c15b1
                            try clear c16
                            try clear c16b0
                            try clear c16b1
                            try clear p16
                            try clear q16
                            try clear hx16
                            try clear c17
                            try clear c17b0
                            try clear c17b1
                            try clear p17
                            try clear q17
                            try clear hx17
                            try clear c21
                            try clear c21b0
                            try clear c21b1
                            try clear c22
                            try clear c22b0
                            try clear c22b1
                            try clear hx167_0
                            try clear hx168_0
                            try clear hx169_0
                            try clear hx170_0
                            try clear hx173_0
                            try clear p1
                            try clear p11
                            try clear p167
                            try clear p168
                            try clear p169
                            try clear p170
                            try clear p173
                            try clear p2
                            try clear p6
                            try clear q1
                            try clear q11
                            try clear q167
                            try clear q168
                            try clear q169
                            try clear q170
                            try clear q173
                            obtain ⟨x10_3, x11_3, rfl, rfl, HA, HK3, HO_4, HO_5, HB⟩ := hrel
                            cases gk with
                            | zero => exact absurd HA.out (by simp [missiveref09_Params.l2])
                            | succ k3 =>
                              have H := HA.out
                              clear HA
                              simp only [missiveref09_Params.l2] at H
                              by_cases c26 : x11_3 < (x5_1.length : Int)
                              · rw [if_pos c26] at H
                                have c26b0 : decide (x11_3 < (x5_1.length : Int)) = true := decide_eq_true c26
                                clear c26
                                by_cases c27 : x10_3 = true
                                · subst c27
                                  have H1 : (if 0 ≤ x11_3 then (missiveref09_Params.l2 k3 t162 x5_1 x6_1 t172 t175 (((rd_T25 x5_1 x11_3).f0).toList != t172.toList) (wrap64 (x11_3 + 1))) else (none)) = some (r1, r2) := by rw [if_pos rfl] at H; exact H
                                  clear H
                                  have H := H1
                                  clear H1
                                  by_cases c28 : 0 ≤ x11_3
                                  · rw [if_pos c28] at H
                                    have c28b0 : decide (0 ≤ x11_3) = true := decide_eq_true c28
                                    clear c28
                                    have H' := Aside0.mk H
                                    clear H
                                    obtain ⟨Ao29, co29, eo29⟩ := Kd.R_slice HO_5.out
                                    subst eo29
                                    have p177 : 0 ≤ (x11_3 : Int) := of_decide_eq_true (by first | (with_reducible assumption) | assumption)
                                    have q177 : x11_3 < (x5_1.length : Int) := of_decide_eq_true (by first | (with_reducible assumption) | assumption)
                                    obtain ⟨ad177, e177, hx177_0, hx177_1⟩ := at_T25 (Kd.R_reads' HO_5.out).2.2 x11_3 p177 q177
                                    cases e177
                                    replace p177 := eq_true p177
                                    replace q177 := eq_true q177
                                    go_wp2
                                    go_roundg k3
                                    case measure => have := HK1.out; have := HJ4.out; have := HK3.out; omega
                                    case rel => exact ⟨((((rd_T25 x5_1 x11_3).f0).toList != t172.toList)), (wrap64 (x11_3 + 1)), (by first | rfl | (simp; done) | (simp [*]; done)), (by first | rfl | (simp; done) | (simp [*]; done)), H', ⟨by have := HK1.out; have := HJ4.out; have := HK3.out; omega⟩, ⟨by (with_reducible repeat (first | apply Kd.R_alloc | apply Kd.R_drewN | apply Kd.R_drew)); exact HO_4.out⟩, ⟨by (with_reducible repeat (first | apply Kd.R_alloc | apply Kd.R_drewN | apply Kd.R_drew)); exact HO_5.out⟩, ⟨by repeat (first | (with_reducible first | exact HB.out | apply below_alloc | apply pw_below_drewN | apply below_drew1) | exact HB.out)⟩⟩
                                  · rw [if_neg c28] at H
                                    exact absurd H (by simp)
                                · replace c27 := Bool.eq_false_iff.mpr c27
                                  subst c27
                                  have H1 : (missiveref09_Params.l2 k3 t162 x5_1 x6_1 t172 t175 false (wrap64 (x11_3 + 1))) = some (r1, r2) := by rw [if_neg (show ¬ (false = true) by decide)] at H; exact H
                                  clear H
                                  have H := H1
                                  clear H1
                                  have H' := Aside0.mk H
                                  clear H
                                  obtain ⟨Ao30, co30, eo30⟩ := Kd.R_slice HO_5.out
                                  subst eo30
                                  go_wp2
                                  go_roundg k3
                                  case measure => have := HK1.out; have := HJ4.out; have := HK3.out; omega
                                  case rel => exact ⟨(false), (wrap64 (x11_3 + 1)), (by first | rfl | (simp; done) | (simp [*]; done)), (by first | rfl | (simp; done) | (simp [*]; done)), H', ⟨by have := HK1.out; have := HJ4.out; have := HK3.out; omega⟩, ⟨by (with_reducible repeat (first | apply Kd.R_alloc | apply Kd.R_drewN | apply Kd.R_drew)); exact HO_4.out⟩, ⟨by (with_reducible repeat (first | apply Kd.R_alloc | apply Kd.R_drewN | apply Kd.R_drew)); exact HO_5.out⟩, ⟨by repeat (first | (with_reducible first | exact HB.out | apply below_alloc | apply pw_below_drewN | apply below_drew1) | exact HB.out)⟩⟩
                              · rw [if_neg c26] at H
                                have c26b0 : decide (x11_3 < (x5_1.length : Int)) = false := decide_eq_false c26
                                clear c26
                                by_cases c31 : x10_3 = true
                                · subst c31
                                  have H1 : ((missiveref09_Token.f k3 t172).bind fun t178 => (if t178 = true then (if x5_1.length < 4398046511104 then (missiveref09_Params.l0 k3 t162 (x5_1 ++ [(⟨t172, t175⟩ : S25)]) (wrap64 (x6_1 + 1))) else (none)) else (missiveref09_Params.l0 k3 t162 x5_1 (wrap64 (x6_1 + 1))))) = some (r1, r2) := by rw [if_pos rfl] at H; exact H
                                  clear H
                                  have H := H1
                                  clear H1
                                  replace H := Option.bind_eq_some_iff.mp H
                                  obtain ⟨t178, A320, H⟩ := H
                                  replace H : (if t178 = true then (if x5_1.length < 4398046511104 then (missiveref09_Params.l0 k3 t162 (x5_1 ++ [(⟨t172, t175⟩ : S25)]) (wrap64 (x6_1 + 1))) else (none)) else (missiveref09_Params.l0 k3 t162 x5_1 (wrap64 (x6_1 + 1)))) = some (r1, r2) := H
                                  have A32 := Aside0.mk A320
                                  clear A320
                                  by_cases c33 : t178 = true
                                  · subst c33
                                    have H1 : (if x5_1.length < 4398046511104 then (missiveref09_Params.l0 k3 t162 (x5_1 ++ [(⟨t172, t175⟩ : S25)]) (wrap64 (x6_1 + 1))) else (none)) = some (r1, r2) := by rw [if_pos rfl] at H; exact H
                                    clear H
                                    have H := H1
                                    clear H1
                                    by_cases c34 : x5_1.length < 4398046511104
                                    · rw [if_pos c34] at H
                                      have LMc34 := Aside0.mk c34
                                      clear c34
                                      obtain ⟨y179, hy179⟩ : ∃ y_ : List (S25), y_ = (x5_1 ++ [(⟨t172, t175⟩ : S25)]) := ⟨_, rfl⟩
                                      replace H : (missiveref09_Params.l0 k3 t162 y179 (wrap64 (x6_1 + 1))) = some (r1, r2) := by first | (rw [hy179]; with_reducible exact H) | (have H2_ := (Option.bind_some _ _).symm.trans H; rw [hy179]; with_reducible exact H2_) | (have H2_ := (Option.bind_some _ _).symm.trans H; with_reducible exact H2_) | with_reducible exact H | (rw [hy179]; exact H) | exact H
                                      have Ny179 := Aside0.mk hy179
                                      clear hy179
                                      have H' := Aside0.mk H
                                      clear H
                                      obtain ⟨Ao35, co35, eo35⟩ := Kd.R_slice HO_5.out
                                      subst eo35
                                      go_wp2_with (first | (go_at_call 13; (with_reducible refine (missiveref09_Token.calls k3 t172 true _ A32.out).mono ?_); rintro e w' ⟨rfl, ⟨nd, rfl⟩⟩) | ((with_reducible refine gate_builtin (b := .append) (xs := #[.tmp 86, .tmp 90]) rfl ?_); at_builtin; refine Kd.R_append k25 (w0 := w) w.heap.size rfl (.tmp 86) (.tmp 90) 22 25 (.agg #[(.string ⟨#[]⟩), (.string ⟨#[]⟩)]) 32 rfl Tryz.underlying22 info25 rfl (by decide) (by omega) (.slice Ao35 x5_1.length co35) x5_1 (⟨t172, t175⟩ : S25) [.string t172, .string t175] (fun _ => True) (fun _ => False) rfl rfl ?aP (fun _ hk => hk.elim) ?aF ?aO ?aB ?aS ?aL ?_; (case aP => exact k25_mkM _ _ _ (⟨t172, t175⟩ : S25)); (case aB => exact (by repeat (first | (with_reducible first | exact HB.out | apply below_alloc | apply pw_below_drewN | apply below_drew1) | exact HB.out))); (case aF => exact (fun _ _ => trivial)); (case aO => exact (by (with_reducible repeat (first | apply Kd.R_alloc | apply Kd.R_drewN | apply Kd.R_drew)); exact HO_5.out)); (case aS => exact (below_size (by repeat (first | (with_reducible first | exact HB.out | apply below_alloc | apply pw_below_drewN | apply below_drew1) | exact HB.out)))); (case aL => have := LMc34.out; omega); intro v180 w36 ho hb hg hat; rw [← Ny179.out] at ho; have n0_ := Aside0.mk (Kd.R_over' (by (with_reducible repeat (first | apply Kd.R_alloc | apply Kd.R_drewN | apply Kd.R_drew)); exact HO_4.out) (Kd.R_typed (by (with_reducible repeat (first | apply Kd.R_alloc | apply Kd.R_drewN | apply Kd.R_drew)); exact HO_5.out)) (by decide) hg); have n1_ := Aside0.mk (hb); have n2_ := Aside0.mk (ho); clear HO_4; clear HB; clear HO_5; have HO_4 := n0_; have HB := n1_; have HO181 := n2_; clear n0_ n1_ n2_; clear ho hb hg hat))
                                      go_roundg k3
                                      case measure => have := HK1.out; have := HJ4.out; have := HK3.out; omega
                                      case rel => exact ⟨(y179), (wrap64 (x6_1 + 1)), (by first | rfl | (simp; done) | (simp [*]; done)), H', ⟨by have := HK1.out; have := HJ4.out; have := HK3.out; omega⟩, ⟨by (with_reducible repeat (first | apply Kd.R_alloc | apply Kd.R_drewN | apply Kd.R_drew)); exact HO_4.out⟩, ⟨by (with_reducible repeat (first | apply Kd.R_alloc | apply Kd.R_drewN | apply Kd.R_drew)); exact HO181.out⟩, ⟨by repeat (first | (with_reducible first | exact HB.out | apply below_alloc | apply pw_below_drewN | apply below_drew1) | exact HB.out)⟩⟩
                                    · rw [if_neg c34] at H
                                      exact absurd H (by simp)
                                  · replace c33 := Bool.eq_false_iff.mpr c33
                                    subst c33
                                    have H1 : (missiveref09_Params.l0 k3 t162 x5_1 (wrap64 (x6_1 + 1))) = some (r1, r2) := by rw [if_neg (show ¬ (false = true) by decide)] at H; exact H
                                    clear H
                                    have H := H1
                                    clear H1
                                    have H' := Aside0.mk H
                                    clear H
                                    obtain ⟨Ao37, co37, eo37⟩ := Kd.R_slice HO_5.out
                                    subst eo37
                                    go_wp2_with (first | (go_at_call 13; (with_reducible refine (missiveref09_Token.calls k3 t172 false _ A32.out).mono ?_); rintro e w' ⟨rfl, ⟨nd, rfl⟩⟩))
                                    go_roundg k3
                                    case measure => have := HK1.out; have := HJ4.out; have := HK3.out; omega
                                    case rel => exact ⟨(x5_1), (wrap64 (x6_1 + 1)), (by first | rfl | (simp; done) | (simp [*]; done)), H', ⟨by have := HK1.out; have := HJ4.out; have := HK3.out; omega⟩, ⟨by (with_reducible repeat (first | apply Kd.R_alloc | apply Kd.R_drewN | apply Kd.R_drew)); exact HO_4.out⟩, ⟨by (with_reducible repeat (first | apply Kd.R_alloc | apply Kd.R_drewN | apply Kd.R_drew)); exact HO_5.out⟩, ⟨by repeat (first | (with_reducible first | exact HB.out | apply below_alloc | apply pw_below_drewN | apply below_drew1) | exact HB.out)⟩⟩
                                · replace c31 := Bool.eq_false_iff.mpr c31
                                  subst c31
                                  have H1 : (missiveref09_Params.l0 k3 t162 x5_1 (wrap64 (x6_1 + 1))) = some (r1, r2) := by rw [if_neg (show ¬ (false = true) by decide)] at H; exact H
                                  clear H
                                  have H := H1
                                  clear H1
                                  have H' := Aside0.mk H
                                  clear H
                                  obtain ⟨Ao38, co38, eo38⟩ := Kd.R_slice HO_5.out
                                  subst eo38
                                  go_wp2
                                  go_roundg k3
                                  case measure => have := HK1.out; have := HJ4.out; have := HK3.out; omega
                                  case rel => exact ⟨(x5_1), (wrap64 (x6_1 + 1)), (by first | rfl | (simp; done) | (simp [*]; done)), H', ⟨by have := HK1.out; have := HJ4.out; have := HK3.out; omega⟩, ⟨by (with_reducible repeat (first | apply Kd.R_alloc | apply Kd.R_drewN | apply Kd.R_drew)); exact HO_4.out⟩, ⟨by (with_reducible repeat (first | apply Kd.R_alloc | apply Kd.R_drewN | apply Kd.R_drew)); exact HO_5.out⟩, ⟨by repeat (first | (with_reducible first | exact HB.out | apply below_alloc | apply pw_below_drewN | apply below_drew1) | exact HB.out)⟩⟩
                        · rw [if_neg c22] at H
                          exact absurd H (by simp)
                      · rw [if_neg c21] at H
                        exact absurd H (by simp)
                    · rw [if_neg c17] at H
                      exact absurd H (by simp)
                  · rw [if_neg c16] at H
                    exact absurd H (by simp)
              · rw [if_neg c14] at H
                exact absurd H (by simp)
            · rw [if_neg c13] at H
              exact absurd H (by simp)
      · rw [if_neg c4] at H
        have c4b0 : decide (x6_1 < (t162.length : Int)) = false := decide_eq_false c4
        clear c4
        by_cases c39 : 0 < (t162.length : Int)
        · rw [if_pos c39] at H
          have c39b0 : decide (0 < (t162.length : Int)) = true := decide_eq_true c39
          have c39b1 : decide (0 < t162.length) = true := decide_eq_true (by omega)
          clear c39
          replace H := Option.bind_eq_some_iff.mp H
          obtain ⟨t166, A400, H⟩ := H
          replace H : (some (t166, x5_1)) = some (r1, r2) := H
          have A40 := Aside0.mk A400
          clear A400
          simp only [Option.some.injEq, Prod.mk.injEq] at H
          obtain ⟨rfl, rfl⟩ := H
          obtain ⟨Ao41, co41, eo41⟩ := Kd.R_slice HO_4.out
          subst eo41
          have p165 : 0 ≤ (0 : Int) := (by omega)
          have q165 : 0 < (t162.length : Int) := of_decide_eq_true (by first | (with_reducible assumption) | assumption)
          obtain ⟨ad165, e165, hx165_0⟩ := Kd.at_string (Kd.R_reads' HO_4.out).2.2 0 p165 q165
          cases e165
          have qi165 : (0 < t162.length) = True := eq_true (by omega)
          (try rw [show ((0 : Int)).toNat = 0 from rfl] at hx165_0)
          (try rw [Addr.add_zero'] at hx165_0)
          replace p165 := eq_true p165
          replace q165 := eq_true q165
          go_wp2_with (first | ((with_reducible refine gate_callee (f := 45) rfl ?_); refine goesL_ (some 95) rfl rfl Tryz.func45 (by kernel_rfl) rfl #[.string (rdOf ByteArray.empty t162 0)] rfl (by (try simp only [List.map_toArray, List.map_cons, List.map_nil]); first | done | rfl | (simp only [List.length_drop, List.length_take]; rfl)) ?_; (with_reducible refine (missiveref01_Trim.calls k1 (rdOf ByteArray.empty t162 0) t166 _ A40.out).mono ?_); rintro e w' ⟨rfl, ⟨nd, rfl⟩⟩; refine ⟨_, rfl, ?_⟩))
          go_ret2
          exact ⟨_, by first | rfl | (simp [errW_none, errW_some]; done) | (simp [errW_none, errW_some]; exact isEmpty_nbne _) | (simp [errW_none, errW_some]; exact isEmpty_bne _) | (simp [errW_none, errW_some] <;> rfl) | (simp [*, errW_none, errW_some] <;> rfl), by (with_reducible repeat (first | apply Kd.R_alloc | apply Kd.R_drewN | apply Kd.R_drew)); exact HO_5.out, by repeat (first | (with_reducible first | exact HB.out | apply below_alloc | apply pw_below_drewN | apply below_drew1) | exact HB.out)⟩
        · rw [if_neg c39] at H
          exact absurd H (by simp)
end Go.Proofs.YtieompfmhnpnaaaGreat.H
end
section
namespace Go.Proofs.YtieompfmhnpnaaaGreat.H
open Go.RowKit Go.Proofs.YtieompfmhnpnaaaGreatW.PrintWords Go.Proofs.YtieompfmhnpnaaaGreatW.PrintLast Go.Proofs.YtieompfmhnpnaaaGreatW.PrintMore
attribute [local go_sem] max2_int min2_int max_two min_two max_three min_three max_four min_four
set_option linter.unusedVariables false
set_option linter.unusedSimpArgs false
def header_isToken.l0 : Nat → ByteArray → Int → Int → Option (Bool)
  | 0, _, _, _ => none
  | k + 1, x0, x5, x6 => if x6 < x5 then (if 0 ≤ x6 then (if x6 < (x0.size : Int) then ((header_visible.f (bt x0 x6)).bind fun t461 => (if t461 = true then ((strings_IndexByte.f (⟨#[40, 41, 60, 62, 64, 44, 59, 58, 92, 34, 47, 91, 93, 63, 61]⟩ : ByteArray) (bt x0 x6)).bind fun t462 => (if t462 ≥ 0 then (some false) else (header_isToken.l0 k x0 x5 (wrap64 (x6 + 1))))) else (some false))) else (none)) else (none)) else (some (x0.toList != ([] : List UInt8)))
def header_isToken.f (k : Nat) (a0 : ByteArray) : Option (Bool) := header_isToken.l0 k a0 (a0.size : Int) 0
theorem header_isToken.mono_l : ∀ k, (∀ y0 y1 y2, LeO (header_isToken.l0 k y0 y1 y2) (header_isToken.l0 (k + 1) y0 y1 y2))
  | 0 => fun _ _ _ r h => by simp [header_isToken.l0] at h
  | k + 1 => by
    have ih0 := header_isToken.mono_l k
    · intro y0 y1 y2
      unfold header_isToken.l0
      repeat' first
      | (with_reducible exact ih0 _ _ _)
      | (with_reducible exact LeO.refl _)
      | (with_reducible exact LeO.none _)
      | (with_reducible refine LeO.ite ?_ ?_)
      | (with_reducible refine LeO.bind ?_ (fun _ => ?_))
      | exact ih0 _ _ _
      | exact LeO.none _
      | refine LeO.ite ?_ ?_
      | refine LeO.bind ?_ (fun _ => ?_)
theorem header_isToken.mono : ∀ a0 k, LeO (header_isToken.f k a0) (header_isToken.f (k + 1) a0) := by
  intro a0 k
  have ih0 := header_isToken.mono_l k
  unfold header_isToken.f
  repeat' first
      | (with_reducible exact ih0 _ _ _)
      | (with_reducible exact LeO.refl _)
      | (with_reducible exact LeO.none _)
      | (with_reducible refine LeO.ite ?_ ?_)
      | (with_reducible refine LeO.bind ?_ (fun _ => ?_))
      | exact ih0 _ _ _
      | exact LeO.none _
      | refine LeO.ite ?_ ?_
      | refine LeO.bind ?_ (fun _ => ?_)
set_option maxHeartbeats 8000000 in
set_option maxRecDepth 100000 in
theorem header_isToken.calls (k : Nat) (a0 : ByteArray) (r : Bool) (w : World) (h : header_isToken.f k a0 = some r) :
    Calls Tryz.prog 41 #[.string a0] w fun e w' => e = .returned (.bool r) ∧ Drawn0 w w' := by
  have H : (header_isToken.l0 k a0 (a0.size : Int) 0) = some r := h
  clear h
  have H' := Aside0.mk H
  clear H
  go_enter Tryz.func41, Tryz.ntmps41
  go_wp2
  go_loopg [6] k (fun kq v6 w' => ∃ (x6_1 : Int), v6 = .int .i64 x6_1 ∧ Aside0 (header_isToken.l0 kq a0 (a0.size : Int) x6_1 = some r) ∧ Aside0 (kq ≤ k) ∧ Drawn0 w w')
  case atStart => exact ⟨(0), (by first | rfl | (simp; done) | (simp [*]; done)), H', ⟨Nat.le_refl _⟩, by repeat (first | exact Drawn0.refl _ | apply Drawn0.step)⟩
  case round =>
    clear H'
    obtain ⟨x6_1, rfl, HA, HK1, ⟨m1, rfl⟩⟩ := hrel
    cases gk with
    | zero => exact absurd HA.out (by simp [header_isToken.l0])
    | succ k1 =>
      have H := HA.out
      clear HA
      simp only [header_isToken.l0] at H
      by_cases c2 : x6_1 < (a0.size : Int)
      · rw [if_pos c2] at H
        have c2b0 : decide (x6_1 < (a0.size : Int)) = true := decide_eq_true c2
        clear c2
        by_cases c3 : 0 ≤ x6_1
        · rw [if_pos c3] at H
          have c3b0 : decide (0 ≤ x6_1) = true := decide_eq_true c3
          clear c3
          by_cases c4 : x6_1 < (a0.size : Int)
          · rw [if_pos c4] at H
            have c4b0 : decide (x6_1 < (a0.size : Int)) = true := decide_eq_true c4
            clear c4
            replace H := Option.bind_eq_some_iff.mp H
            obtain ⟨t461, A60, H⟩ := H
            replace H : (if t461 = true then ((strings_IndexByte.f (⟨#[40, 41, 60, 62, 64, 44, 59, 58, 92, 34, 47, 91, 93, 63, 61]⟩ : ByteArray) (bt a0 x6_1)).bind fun t462 => (if t462 ≥ 0 then (some false) else (header_isToken.l0 k1 a0 (a0.size : Int) (wrap64 (x6_1 + 1))))) else (some false)) = some r := H
            have A6 := Aside0.mk A60
            clear A60
            by_cases c7 : t461 = true
            · subst c7
              have H1 : ((strings_IndexByte.f (⟨#[40, 41, 60, 62, 64, 44, 59, 58, 92, 34, 47, 91, 93, 63, 61]⟩ : ByteArray) (bt a0 x6_1)).bind fun t462 => (if t462 ≥ 0 then (some false) else (header_isToken.l0 k1 a0 (a0.size : Int) (wrap64 (x6_1 + 1))))) = some r := by rw [if_pos rfl] at H; exact H
              clear H
              have H := H1
              clear H1
              replace H := Option.bind_eq_some_iff.mp H
              obtain ⟨t462, A90, H⟩ := H
              replace H : (if t462 ≥ 0 then (some false) else (header_isToken.l0 k1 a0 (a0.size : Int) (wrap64 (x6_1 + 1)))) = some r := H
              have A9 := Aside0.mk A90
              clear A90
              by_cases c10 : t462 ≥ 0
              · rw [if_pos c10] at H
                have c10b0 : decide (0 ≤ t462) = true := decide_eq_true c10
                clear c10
                obtain rfl := Option.some.inj H
                have p5 : 0 ≤ (x6_1 : Int) := of_decide_eq_true (by first | (with_reducible assumption) | assumption)
                have q5 : x6_1 < (a0.size : Int) := of_decide_eq_true (by first | (with_reducible assumption) | assumption)
                have hx5 := bt_at a0 x6_1
                replace p5 := eq_true p5
                replace q5 := eq_true q5
                go_wp2_with (first | ((with_reducible refine gate_callee (f := 72) rfl ?_); refine goesL_ (some 12) rfl rfl Tryz.func72 (by kernel_rfl) rfl #[.int .u8 (bt a0 x6_1)] rfl (by (try simp only [List.map_toArray, List.map_cons, List.map_nil]); first | done | rfl | (simp only [List.length_drop, List.length_take]; rfl)) ?_; (with_reducible refine (header_visible.calls (bt a0 x6_1) true _ A6.out).mono ?_); rintro e w' ⟨rfl, ⟨nd, rfl⟩⟩; refine ⟨_, rfl, ?_⟩; have p8 : 0 ≤ (x6_1 : Int) := of_decide_eq_true (by first | (with_reducible assumption) | assumption); have q8 : x6_1 < (a0.size : Int) := of_decide_eq_true (by first | (with_reducible assumption) | assumption); have hx8 := bt_at a0 x6_1; replace p8 := eq_true p8; replace q8 := eq_true q8) | (go_at_call 73; (with_reducible refine (strings_IndexByte.calls (⟨#[40, 41, 60, 62, 64, 44, 59, 58, 92, 34, 47, 91, 93, 63, 61]⟩ : ByteArray) (bt a0 x6_1) t462 _ A9.out).mono ?_); rintro e w' ⟨rfl, ⟨nd, rfl⟩⟩))
                go_ret
                exact ⟨by first | rfl | (simp; done) | (simp [*]; done), by repeat (first | exact Drawn0.refl _ | apply Drawn0.step)⟩
              · rw [if_neg c10] at H
                have c10b0 : decide (0 ≤ t462) = false := decide_eq_false c10
                clear c10
                have H' := Aside0.mk H
                clear H
                have p5 : 0 ≤ (x6_1 : Int) := of_decide_eq_true (by first | (with_reducible assumption) | assumption)
                have q5 : x6_1 < (a0.size : Int) := of_decide_eq_true (by first | (with_reducible assumption) | assumption)
                have hx5 := bt_at a0 x6_1
                replace p5 := eq_true p5
                replace q5 := eq_true q5
                go_wp2_with (first | ((with_reducible refine gate_callee (f := 72) rfl ?_); refine goesL_ (some 12) rfl rfl Tryz.func72 (by kernel_rfl) rfl #[.int .u8 (bt a0 x6_1)] rfl (by (try simp only [List.map_toArray, List.map_cons, List.map_nil]); first | done | rfl | (simp only [List.length_drop, List.length_take]; rfl)) ?_; (with_reducible refine (header_visible.calls (bt a0 x6_1) true _ A6.out).mono ?_); rintro e w' ⟨rfl, ⟨nd, rfl⟩⟩; refine ⟨_, rfl, ?_⟩; have p8 : 0 ≤ (x6_1 : Int) := of_decide_eq_true (by first | (with_reducible assumption) | assumption); have q8 : x6_1 < (a0.size : Int) := of_decide_eq_true (by first | (with_reducible assumption) | assumption); have hx8 := bt_at a0 x6_1; replace p8 := eq_true p8; replace q8 := eq_true q8) | (go_at_call 73; (with_reducible refine (strings_IndexByte.calls (⟨#[40, 41, 60, 62, 64, 44, 59, 58, 92, 34, 47, 91, 93, 63, 61]⟩ : ByteArray) (bt a0 x6_1) t462 _ A9.out).mono ?_); rintro e w' ⟨rfl, ⟨nd, rfl⟩⟩))
                go_roundg k1
                case measure => have := HK1.out; omega
                case rel => exact ⟨(wrap64 (x6_1 + 1)), (by first | rfl | (simp; done) | (simp [*]; done)), H', ⟨by have := HK1.out; omega⟩, by repeat (first | exact Drawn0.refl _ | apply Drawn0.step)⟩
            · replace c7 := Bool.eq_false_iff.mpr c7
              subst c7
              have H1 : (some false) = some r := by rw [if_neg (show ¬ (false = true) by decide)] at H; exact H
              clear H
              have H := H1
              clear H1
              obtain rfl := Option.some.inj H
              have p5 : 0 ≤ (x6_1 : Int) := of_decide_eq_true (by first | (with_reducible assumption) | assumption)
              have q5 : x6_1 < (a0.size : Int) := of_decide_eq_true (by first | (with_reducible assumption) | assumption)
              have hx5 := bt_at a0 x6_1
              replace p5 := eq_true p5
              replace q5 := eq_true q5
              go_wp2_with (first | ((with_reducible refine gate_callee (f := 72) rfl ?_); refine goesL_ (some 12) rfl rfl Tryz.func72 (by kernel_rfl) rfl #[.int .u8 (bt a0 x6_1)] rfl (by (try simp only [List.map_toArray, List.map_cons, List.map_nil]); first | done | rfl | (simp only [List.length_drop, List.length_take]; rfl)) ?_; (with_reducible refine (header_visible.calls (bt a0 x6_1) false _ A6.out).mono ?_); rintro e w' ⟨rfl, ⟨nd, rfl⟩⟩; refine ⟨_, rfl, ?_⟩))
              go_ret
              exact ⟨by first | rfl | (simp; done) | (simp [*]; done), by repeat (first | exact Drawn0.refl _ | apply Drawn0.step)⟩
          · rw [if_neg c4] at H
            exact absurd H (by simp)
        · rw [if_neg c3] at H
          exact absurd H (by simp)
      · rw [if_neg c2] at H
        have c2b0 : decide (x6_1 < (a0.size : Int)) = false := decide_eq_false c2
        clear c2
        obtain rfl := Option.some.inj H
        go_wp2
        go_ret
        exact ⟨by first | rfl | (simp; done) | (simp; exact isEmpty_nbne _) | (simp [*]; done), by repeat (first | exact Drawn0.refl _ | apply Drawn0.step)⟩
end Go.Proofs.YtieompfmhnpnaaaGreat.H
end
section
namespace Go.Proofs.YtieompfmhnpnaaaGreat.H
open Go.RowKit Go.Proofs.YtieompfmhnpnaaaGreatW.PrintWords Go.Proofs.YtieompfmhnpnaaaGreatW.PrintLast Go.Proofs.YtieompfmhnpnaaaGreatW.PrintMore
set_option linter.unusedVariables false
set_option linter.unusedSimpArgs false
def byteAt (s : ByteArray) (i : Nat) : UInt8 := s.data.toList.getD i 0
theorem byteAt_get (s : ByteArray) (i : Nat) (h : i < s.size) : s[i] = byteAt s i := by
  unfold byteAt
  have hl : s.data.toList.length = s.size := by simp
  rw [List.getD_eq_getElem?_getD, List.getElem?_eq_getElem (by omega)]
  simp
  rfl
def blankB (c : UInt8) : Bool := c == 32 || c == 9
theorem blank_at (c : UInt8) : header_blank.f (c.toNat : Int) = some (blankB c) := by
  unfold header_blank.f blankB
  have e : ∀ n : Nat, n < 256 → ((c == UInt8.ofNat n) = decide (c.toNat = n)) := fun n hn => by
    rw [Bool.eq_iff_iff]
    simp
    constructor
    · rintro rfl; simp; omega
    · intro h; rw [← h]; simp
  have e1 := e 32 (by decide)
  have e2 := e 9 (by decide)
  simp at e1 e2
  rw [e1, e2]
  by_cases h : c.toNat = 32
  · simp [h]
  · by_cases h2 : c.toNat = 9
    · simp [h2]
    · have h3 : ¬ ((c.toNat : Int) = 32) := by omega
      have h4 : ¬ ((c.toNat : Int) = 9) := by omega
      simp [h, h2, h3, h4]
def isFoldB (s : ByteArray) (i : Nat) : Bool := byteAt s i == 32 && !blankB (byteAt s (i - 1)) && !blankB (byteAt s (i + 1))
set_option maxRecDepth 100000 in
set_option maxHeartbeats 1000000 in
theorem isFold_calls (s : ByteArray) (i b : Nat) (w : World) (hs : s.size ≤ 1099511627776) (hb : w.cell? ⟨b, 0, none⟩ = some (.string s)) (h1 : 1 ≤ i) (h2 : i + 1 < s.size) :
    Calls Tryz.prog 96 #[.int .i64 i, .pointer (some ⟨b, 0, none⟩)] w fun e w' => e = .returned (.bool (isFoldB s i)) ∧ Drawn0 w w' := by
  have k0 := byteAt_get s i (by omega)
  have k1 := byteAt_get s (i - 1) (by omega)
  have k2 := byteAt_get s (i + 1) (by omega)
  have j1 : ((i : Int) - 1).toNat = i - 1 := by omega
  have j2 : (0 : Int) ≤ (i : Int) - 1 := by omega
  have j3 : ((i : Int) + 1).toNat = i + 1 := by omega
  have j4 : (0 : Int) ≤ (i : Int) + 1 := by omega
  by_cases c1 : byteAt s i = 32
  · have hb1 : (((byteAt s i).toNat : Int) == 32) = true := by rw [c1]; rfl
    have B1 := Lib.hid (blank_at (byteAt s (i - 1)))
    by_cases c2 : blankB (byteAt s (i - 1)) = true
    · have E := Lib.hid (show isFoldB s i = false by simp [isFoldB, c2])
      have C2 := Lib.hid c2
      clear c1 c2 k2
      go_enter Tryz.func96, Tryz.ntmps96
      go_wp2_with fail
      refine (header_blank.calls _ _ _ B1.out).mono ?_
      rintro e w1 ⟨rfl, ⟨n, rfl⟩⟩
      rw [C2.out]
      go_wp2_with fail
      go_ret
      exact ⟨by rw [E.out]; rfl, ⟨n, rfl⟩⟩
    · have c2' : blankB (byteAt s (i - 1)) = false := by simpa using c2
      have B2 := Lib.hid (blank_at (byteAt s (i + 1)))
      have E := Lib.hid (show isFoldB s i = !blankB (byteAt s (i + 1)) by simp [isFoldB, c1, c2'])
      have C2 := Lib.hid c2'
      clear c1 c2 c2'
      go_enter Tryz.func96, Tryz.ntmps96
      go_wp2_with fail
      refine (header_blank.calls _ _ _ B1.out).mono ?_
      rintro e w1 ⟨rfl, ⟨n, rfl⟩⟩
      rw [C2.out]
      go_wp2_with fail
      refine (header_blank.calls _ _ _ B2.out).mono ?_
      rintro e w2 ⟨rfl, ⟨m, rfl⟩⟩
      go_wp2_with fail
      go_ret
      exact ⟨by rw [E.out]; rfl, ⟨n + m, rfl⟩⟩
  · have hne : ((byteAt s i).toNat : Int) ≠ 32 := fun h => c1 (by
      have : (byteAt s i).toNat = 32 := by omega
      exact UInt8.toNat_inj.1 (by simpa using this))
    have hb1 : (((byteAt s i).toNat : Int) == 32) = false := by simpa using hne
    have E := Lib.hid (show isFoldB s i = false by simp [isFoldB, c1])
    clear c1 hne k1 k2
    go_enter Tryz.func96, Tryz.ntmps96
    go_wp2_with fail
    go_ret
    exact ⟨by rw [E.out]; rfl, Drawn0.refl _⟩
def downTo (p : Nat → Bool) (lo : Nat) : Nat → Nat
  | 0 => 0
  | n + 1 => if n + 1 ≤ lo then 0 else if p (n + 1) then n + 1 else downTo p lo n
def upTo (p : Nat → Bool) : Nat → Nat → Nat
  | _, 0 => 0
  | i, f + 1 => if p i then i else upTo p (i + 1) f
def foldAtS (s : ByteArray) (bound : Nat) : Nat :=
  let last := min 998 (s.size - 2)
  let d := downTo (isFoldB s) bound (min 78 last)
  if d = 0 then upTo (isFoldB s) (max 78 bound + 1) (last - max 78 bound) else d
theorem downTo_low (p : Nat → Bool) (lo n : Nat) (h : n ≤ lo) : downTo p lo n = 0 := by
  cases n with
  | zero => rfl
  | succ n => unfold downTo; rw [if_pos h]
theorem downTo_yes (p : Nat → Bool) (lo n : Nat) (h : lo < n) (hp : p n = true) : downTo p lo n = n := by
  cases n with
  | zero => omega
  | succ n => unfold downTo; rw [if_neg (by omega), if_pos hp]
theorem downTo_no (p : Nat → Bool) (lo n : Nat) (h : lo < n) (hp : p n = false) : downTo p lo n = downTo p lo (n - 1) := by
  cases n with
  | zero => omega
  | succ n =>
    conv => lhs; unfold downTo
    rw [if_neg (by omega), if_neg (by simp [hp])]
    rfl
theorem foldAtS_down (s : ByteArray) (bound n L M : Nat) (hL : L = min 998 (s.size - 2)) (hM : min 78 L = M) (h : downTo (isFoldB s) bound M = n) (hn : n ≠ 0) : foldAtS s bound = n := by
  unfold foldAtS
  simp only
  rw [← hL, hM, h, if_neg hn]
theorem foldAtS_up (s : ByteArray) (bound L M : Nat) (hL : L = min 998 (s.size - 2)) (hM : min 78 L = M) (h : downTo (isFoldB s) bound M = 0) : foldAtS s bound = upTo (isFoldB s) (max 78 bound + 1) (L - max 78 bound) := by
  unfold foldAtS
  simp only
  rw [← hL, hM, h, if_pos rfl]
theorem upTo_yes (p : Nat → Bool) (i L : Nat) (h : i ≤ L) (hp : p i = true) : upTo p i (L + 1 - i) = i := by
  rw [show L + 1 - i = (L - i) + 1 from by omega]
  unfold upTo
  rw [if_pos hp]
theorem upTo_no (p : Nat → Bool) (i L : Nat) (h : i ≤ L) (hp : p i = false) : upTo p i (L + 1 - i) = upTo p (i + 1) (L + 1 - (i + 1)) := by
  rw [show L + 1 - i = (L + 1 - (i + 1)) + 1 from by omega]
  conv => lhs; unfold upTo
  rw [if_neg (by simp [hp])]
theorem upTo_end (p : Nat → Bool) (i L : Nat) (h : L < i) : upTo p i (L + 1 - i) = 0 := by
  rw [show L + 1 - i = 0 from by omega]
  rfl
theorem drawn_trans {a b c : World} (h : Drawn0 a b) (k : Drawn0 b c) : Drawn0 a c := by
  obtain ⟨n, rfl⟩ := h
  obtain ⟨m, rfl⟩ := k
  exact ⟨n + m, World.drewN_drewN ..⟩
theorem drawn_below {a b : World} (h : Drawn0 a b) {B : Nat} : Below B a b := by
  obtain ⟨n, rfl⟩ := h
  exact pw_below_drewN (Below.refl _ _) n
theorem drawn_cell {a b : World} (h : Drawn0 a b) (p : Addr) : b.cell? p = a.cell? p := by
  obtain ⟨n, rfl⟩ := h
  rfl
set_option maxRecDepth 100000 in
set_option maxHeartbeats 2000000 in
theorem foldAt_calls (s : ByteArray) (bound : Nat) (w : World) (hs : s.size ≤ 1099511627776) (h78 : 78 < s.size) (hb : bound ≤ 1000) :
    Calls Tryz.prog 84 #[.string s, .int .i64 bound] w fun e w' => e = .returned (.int .i64 (foldAtS s bound)) ∧ Below w.heap.size w w' := by
  obtain ⟨L, hL⟩ : ∃ L, L = min 998 (s.size - 2) := ⟨_, rfl⟩
  have e1 : min (998 : Int) ((s.size : Int) - 2) = (L : Int) := by omega
  have e2 : min (78 : Int) (L : Int) = ((min 78 L : Nat) : Int) := by omega
  have l1 : 77 ≤ L := by omega
  have l2 : L + 1 < s.size := by omega
  have l3 : L ≤ 998 := by omega
  have m1 : min 78 L ≤ L := by omega
  have m2 : 77 ≤ min 78 L := by omega
  have E1 := Lib.hid e1
  have E2 := Lib.hid e2
  have HL := Lib.hid hL
  clear e1 e2 hL
  obtain ⟨W, hW⟩ : ∃ W, W = w.alloc (Obj.cells #[Value.string s] 9) := ⟨_, rfl⟩
  have hcell : W.cell? ⟨w.heap.size, 0, none⟩ = some (.string s) := by rw [hW]; simp
  have hBW : Below w.heap.size w W := by rw [hW]; exact (Below.refl _ _).alloc (Nat.le_refl _) _
  have HW := Aside0.mk hW
  clear hW
  go_enter Tryz.func84, Tryz.ntmps84
  go_wp2_with fail
  rw [E1.out, E2.out, ← HW.out]
  generalize hM : min 78 L = M at m1 m2 ⊢
  have HM := Lib.hid hM
  clear hM
  go_loopw [7] (fun v wr => ∃ n : Nat, n ≤ M ∧ v = .int .i64 n ∧ Aside0 (downTo (isFoldB s) bound M = downTo (isFoldB s) bound n) ∧ Drawn0 W wr) (fun v _ => (intOf v).toNat)
  case atStart => exact ⟨M, Nat.le_refl _, rfl, ⟨rfl⟩, Drawn0.refl _⟩
  case round =>
    obtain ⟨n, hn, rfl, hd, hdr⟩ := hrel
    by_cases hlt : bound < n
    · have hc := (drawn_cell hdr ⟨w.heap.size, 0, none⟩).trans hcell
      have hif := isFold_calls s n w.heap.size wr hs hc (by omega) (by omega)
      have HIF := Aside0.mk hif
      clear hif
      by_cases hp : isFoldB s n = true
      · have HP := Lib.hid hp
        have HX := Lib.hid (downTo_yes (isFoldB s) bound n hlt hp)
        clear hp
        go_wp2_with fail
        refine (HIF.out).mono ?_
        rintro e w2 ⟨rfl, hd2⟩
        rw [HP.out]
        go_wp2_with fail
        go_ret
        have hf := foldAtS_down s bound n L M HL.out HM.out (hd.out.trans HX.out) (by omega)
        exact ⟨by rw [hf]; rfl, hBW.trans (drawn_below (drawn_trans hdr hd2))⟩
      · have hp' : isFoldB s n = false := by simpa using hp
        have HP := Lib.hid hp'
        have HX := Lib.hid (downTo_no (isFoldB s) bound n hlt hp')
        clear hp hp'
        go_wp2_with fail
        refine (HIF.out).mono ?_
        rintro e w2 ⟨rfl, hd2⟩
        rw [HP.out]
        go_wp2_with fail
        go_roundw
        case rel => exact ⟨n - 1, by omega, congrArg (Value.int .i64) (by omega), ⟨hd.out.trans HX.out⟩, drawn_trans hdr hd2⟩
        case measure => simp [intOf]; omega
    · have hz := hd.out.trans (downTo_low (isFoldB s) bound n (by omega))
      have HF := Lib.hid (foldAtS_up s bound L M HL.out HM.out hz)
      obtain ⟨mx, hmx⟩ : ∃ mx, mx = max 78 bound := ⟨_, rfl⟩
      have e3 : max (78 : Int) (bound : Int) = (mx : Int) := by omega
      have E3 := Lib.hid e3
      have mx1 : 78 ≤ mx := by omega
      have mx2 : mx ≤ 1000 := by omega
      rw [← hmx] at HF
      clear hmx e3 hz hd
      go_wp2_with fail
      rw [E3.out]
      obtain ⟨w4, hw4⟩ : ∃ w4 : World, w4 = wr := ⟨_, rfl⟩
      subst hw4
      go_loopw [8] (fun v wr => ∃ i : Nat, mx + 1 ≤ i ∧ i ≤ max (L + 1) (mx + 1) ∧ v = .int .i64 i ∧ Aside0 (upTo (isFoldB s) (mx + 1) (L - mx) = upTo (isFoldB s) i (L + 1 - i)) ∧ Drawn0 W wr) (fun v _ => L + 1 - (intOf v).toNat)
      case atStart => exact ⟨mx + 1, Nat.le_refl _, by omega, by go_num, ⟨by rw [show L + 1 - (mx + 1) = L - mx from by omega]⟩, hdr⟩
      case round =>
        clear hdr
        obtain ⟨i, hi1, hi2, rfl, hd, hdr⟩ := hrel
        by_cases hle : i ≤ L
        · have hc := (drawn_cell hdr ⟨w.heap.size, 0, none⟩).trans hcell
          have hif := isFold_calls s i w.heap.size wr hs hc (by omega) (by omega)
          have HIF := Aside0.mk hif
          clear hif
          by_cases hp : isFoldB s i = true
          · have HP := Lib.hid hp
            have HX := Lib.hid (upTo_yes (isFoldB s) i L hle hp)
            clear hp
            go_wp2_with fail
            refine (HIF.out).mono ?_
            rintro e w2 ⟨rfl, hd2⟩
            rw [HP.out]
            go_wp2_with fail
            go_ret
            exact ⟨by rw [HF.out, hd.out, HX.out]; rfl, hBW.trans (drawn_below (drawn_trans hdr hd2))⟩
          · have hp' : isFoldB s i = false := by simpa using hp
            have HP := Lib.hid hp'
            have HX := Lib.hid (upTo_no (isFoldB s) i L hle hp')
            clear hp hp'
            go_wp2_with fail
            refine (HIF.out).mono ?_
            rintro e w2 ⟨rfl, hd2⟩
            rw [HP.out]
            go_wp2_with fail
            go_roundw
            case rel => exact ⟨i + 1, by omega, by omega, by go_num, ⟨hd.out.trans HX.out⟩, drawn_trans hdr hd2⟩
            case measure => simp [intOf]; omega
        · have HX := Lib.hid (upTo_end (isFoldB s) i L (by omega))
          go_wp2_with fail
          go_ret
          exact ⟨by rw [HF.out, hd.out, HX.out]; rfl, hBW.trans (drawn_below hdr)⟩
end Go.Proofs.YtieompfmhnpnaaaGreat.H
end
section
namespace Go.Proofs.YtieompfmhnpnaaaGreat.H
open Go.RowKit Go.Proofs.YtieompfmhnpnaaaGreatW.PrintWords Go.Proofs.YtieompfmhnpnaaaGreatW.PrintLast Go.Proofs.YtieompfmhnpnaaaGreatW.PrintMore
set_option linter.unusedVariables false
set_option linter.unusedSimpArgs false
abbrev muLink : Go.Conc.Locks.MuLink := { lock := 104, unlock := 105, ilock := 111, iunlock := 112, lockSlow := 121, unlockSlow := 124, disable := 117, enable := 119, acquire := 120, relMerge := 122, cas32 := 118, add32 := 123, tMutex := 99, tIMutex := 97, tPMutex := 137, tPIMutex := 151, tPI32 := 153, tUP := 112, tNoCopy := 91, tU32 := 93 }
theorem muLib : Go.Conc.Locks.MuLib Tryz.prog muLink :=
  ⟨Tryz.func104, Tryz.func105, Tryz.func111, Tryz.func112, Tryz.func117, Tryz.func119, Tryz.func120, Tryz.func122, Tryz.func118, Tryz.func123, Tryz.underlying97, Tryz.runUnderlying97, Tryz.sizeOf97, Tryz.isAgg97, Tryz.zeroValue97, Tryz.underlying99, Tryz.runUnderlying99, Tryz.sizeOf99, Tryz.isAgg99, Tryz.zeroValue99, Tryz.underlying137, Tryz.runUnderlying137, Tryz.sizeOf137, Tryz.isAgg137, Tryz.zeroValue137, Tryz.underlying151, Tryz.runUnderlying151, Tryz.sizeOf151, Tryz.isAgg151, Tryz.zeroValue151, Tryz.underlying153, Tryz.runUnderlying153, Tryz.sizeOf153, Tryz.isAgg153, Tryz.zeroValue153, Tryz.underlying112, Tryz.runUnderlying112, Tryz.sizeOf112, Tryz.isAgg112, Tryz.zeroValue112, Tryz.underlying91, Tryz.runUnderlying91, Tryz.sizeOf91, Tryz.isAgg91, Tryz.zeroValue91, Tryz.underlying21, Tryz.runUnderlying21, Tryz.sizeOf21, Tryz.isAgg21, Tryz.zeroValue21, (by kernel_rfl)⟩
theorem store_deferred (a : Addr) (x : Value) (u : FrameMode) (w : World) (hc : w.cell? a = some x) (hz : w.frozen? a = false) :
    CallsD Tryz.prog 106 #[.pointer (some a), .bool true] u w fun e u' w' => u' = u ∧ (e = .returned (.tuple #[]) ∧ w' = w.drew.setCell a (.int .u32 1)) := by
  have hc' : w.drew.cell? a = some x := by go_simp
  have hz' : w.drew.frozen? a = false := by go_simp
  have hst := run_call_store (P := Tryz.prog) Tryz.func113 (by kernel_rfl) (by kernel_rfl) (by kernel_rfl) (by kernel_rfl) (k := .u32) (y := 1) hc' hz'
  go_enter_d Tryz.func106, Tryz.ntmps106
  go_wp2
  go_region_calls
  all_goals (go_end0; exact ⟨rfl, rfl⟩)
theorem load_false (a : Addr) (w : World) (hc : w.cell? a = some (.int .u32 0)) :
    Calls Tryz.prog 93 #[.pointer (some a)] w fun e w' => e = .returned (.bool false) ∧ w = w' := by
  have hl := run_call_load (P := Tryz.prog) Tryz.func103 (by kernel_rfl) (by kernel_rfl) (by kernel_rfl) .u32 (by kernel_rfl) hc
  go_enter Tryz.func93, Tryz.ntmps93
  go_wp2
  go_ret
  exact ⟨rfl, rfl⟩
structure Fresh (w : World) (g : Nat) : Prop where
  done : w.cell? ⟨g, 0, none⟩ = some (.int .u32 0)
  state : w.cell? ⟨g, 1, none⟩ = some (.int .i32 0)
  f0 : w.frozen? ⟨g, 0, none⟩ = false
  f1 : w.frozen? ⟨g, 1, none⟩ = false
structure Held (w : World) (g : Nat) : Prop where
  done : w.cell? ⟨g, 0, none⟩ = some (.int .u32 0)
  state : w.cell? ⟨g, 1, none⟩ = some (.int .i32 1)
  f0 : w.frozen? ⟨g, 0, none⟩ = false
  f1 : w.frozen? ⟨g, 1, none⟩ = false
theorem Fresh.locked {w : World} {g : Nat} (h : Fresh w g) : Held (w.setCell ⟨g, 1, none⟩ (.int .i32 1)) g :=
  ⟨(World.cell?_setCell_other _ ⟨g, 1, none⟩ ⟨g, 0, none⟩ _ (by simp)).trans h.done, World.cell?_setCell_same _ _ _ h.state, by rw [World.frozen?_setCell]; exact h.f0, by rw [World.frozen?_setCell]; exact h.f1⟩
set_option maxRecDepth 100000 in
set_option maxHeartbeats 1600000 in
theorem slow_any (g : Nat) (w : World) (h : Fresh w g) (Q : World → Prop)
    (hfn : Calls Tryz.prog 81 #[.pointer (some ⟨g, 0, none⟩)] (w.setCell ⟨g, 1, none⟩ (.int .i32 1)) fun e w' => e = .returned (.tuple #[]) ∧ Held w' g ∧ Q w') :
    Calls Tryz.prog 94 #[.pointer (some ⟨g, 0, none⟩), .func (.func 81) #[.pointer (some ⟨g, 0, none⟩)] #[]] w fun e w' => e = .returned (.tuple #[]) ∧
      ∃ w2, Q w2 ∧ w' = (w2.drew.setCell ⟨g, 0, none⟩ (.int .u32 1)).setCell ⟨g, 1, none⟩ (.int .i32 0) := by
  have HFN := Aside0.mk hfn
  have HQ := h.locked
  obtain ⟨q0, q1, q2, q3⟩ := HQ
  obtain ⟨p0, p1, p2, p3⟩ := h
  have hnot : ∀ (x : Bool) (w : World), (Op.unary .not (.bool x)).run Tryz.prog w = .ok (.bool (!x)) w := fun _ _ => rfl
  clear hfn
  go_enter_defers Tryz.func94, Tryz.ntmps94
  go_wp2_with (go_at_call 104; refine (Go.MuLone.lock_free muLib ⟨g, 1, none⟩ _ p1 p3).mono ?_; rintro e w' ⟨rfl, rfl⟩)
  refine (load_false ⟨g, 0, none⟩ _ q0).mono ?_
  rintro e w' ⟨rfl, rfl⟩
  go_wp2_with fail
  refine (HFN.out).mono ?_
  rintro e w2 ⟨rfl, hh, hq⟩
  obtain ⟨r0, r1, r2, r3⟩ := hh
  go_wp2_with fail
  refine leaves_cons (f := 106) (args := #[.pointer (some ⟨g, 0, none⟩), .bool true]) (by simp) (by simp [go_sem]) ?_
  refine (store_deferred ⟨g, 0, none⟩ (.int .u32 0) .returning _ r0 r2).mono ?_
  rintro e u' w'' ⟨rfl, rfl, rfl⟩
  refine leaves_cons (f := 105) (args := #[.pointer (some ⟨g, 1, none⟩)]) (by simp [settle]) (by simp [go_sem]) ?_
  refine (Go.MuLone.unlock_deferred muLib ⟨g, 1, none⟩ _ _ ?_ (by simp [r3])).mono ?_
  · refine (World.cell?_setCell_other _ ⟨g, 0, none⟩ ⟨g, 1, none⟩ _ (by simp)).trans ?_
    rw [World.cell?_drew]
    exact r1
  rintro e u' w'' ⟨rfl, rfl, rfl⟩
  simp [Leaves, settle, results, Tryz.results94]
  exact ⟨_, hq, rfl⟩
set_option maxRecDepth 100000 in
set_option maxHeartbeats 1600000 in
theorem do_first (g : Nat) (w : World) (h : Fresh w g) (Q : World → Prop)
    (hfn : Calls Tryz.prog 81 #[.pointer (some ⟨g, 0, none⟩)] (w.setCell ⟨g, 1, none⟩ (.int .i32 1)) fun e w' => e = .returned (.tuple #[]) ∧ Held w' g ∧ Q w') :
    Calls Tryz.prog 80 #[.pointer (some ⟨g, 0, none⟩), .func (.func 81) #[.pointer (some ⟨g, 0, none⟩)] #[]] w fun e w' => e = .returned (.tuple #[]) ∧
      ∃ w2, Q w2 ∧ w' = (w2.drew.setCell ⟨g, 0, none⟩ (.int .u32 1)).setCell ⟨g, 1, none⟩ (.int .i32 0) := by
  have HFN := Aside0.mk hfn
  have HH := Aside0.mk h
  have hd := h.done
  have hnot : ∀ (x : Bool) (w : World), (Op.unary .not (.bool x)).run Tryz.prog w = .ok (.bool (!x)) w := fun _ _ => rfl
  clear hfn h
  go_enter Tryz.func80, Tryz.ntmps80
  go_wp2_with fail
  refine (load_false ⟨g, 0, none⟩ _ hd).mono ?_
  rintro e w' ⟨rfl, rfl⟩
  go_wp2_with fail
  refine (slow_any g _ HH.out Q HFN.out).mono ?_
  rintro e w' ⟨rfl, hq⟩
  have HQ := Aside0.mk hq
  clear hq
  go_wp2_with fail
  go_end0
  exact ⟨rfl, HQ.out⟩
end Go.Proofs.YtieompfmhnpnaaaGreat.H
end
