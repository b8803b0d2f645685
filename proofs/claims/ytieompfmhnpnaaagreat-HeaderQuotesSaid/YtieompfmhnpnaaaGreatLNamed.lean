/- Plain laws: what the reference's Printable, has and Named compute. -/
import Derived.Test.YtieompfmhnpnaaaGreatB0
import Derived.Test.YtieompfmhnpnaaaGreatBa
import Derived.Test.YtieompfmhnpnaaaGreatXPlain
namespace Go.Proofs.YtieompfmhnpnaaaGreat.H
open Go.RowKit Go.Proofs.YtieompfmhnpnaaaGreatW.PrintWords Go.Proofs.YtieompfmhnpnaaaGreatW.PrintLast Go.Proofs.YtieompfmhnpnaaaGreatW.PrintMore
set_option linter.unusedVariables false
set_option linter.unusedSimpArgs false

theorem printable_l0 (s : ByteArray) (hs : s.size ≤ 1099511627776) : ∀ (n i : Nat), i + n = s.size →
    Ev (fun k => missiveref09_Printable.l0 k s (i : Int)) (((bl s).drop i).all visB)
  | 0, i, hi => by
    have hl := bl_length s
    refine Ev.step (fun k => by simp only [missiveref09_Printable.l0]; rfl) ?_
    refine ev_no (by omega) ?_
    exact ev_done (by rw [List.drop_of_length_le (by omega)]; rfl)
  | n + 1, i, hi => by
    refine Ev.step (fun k => by simp only [missiveref09_Printable.l0]; rfl) ?_
    have hb := bt_byteAt s i (by omega)
    refine ev_yes (by omega) ?_
    refine ev_yes (by omega) ?_
    simp only [hb]
    rw [drop_byteAt s i (by omega), List.all_cons]
    by_cases h1 : (byteAt s i).toNat < 33
    · have hv : visB (byteAt s i) = false := by unfold visB; simp; omega
      rw [hv, Bool.false_and]
      exact ev_yes (by omega) (Ev.now _)
    · refine ev_no (by omega) ?_
      by_cases h2 : (byteAt s i).toNat > 126
      · have hv : visB (byteAt s i) = false := by unfold visB; simp; omega
        rw [hv, Bool.false_and]
        exact ev_yes (by omega) (Ev.now _)
      · have hv : visB (byteAt s i) = true := by unfold visB; simp; omega
        rw [hv, Bool.true_and]
        refine ev_no (by omega) ?_
        rw [wrap_up i (by omega)]
        exact printable_l0 s hs n (i + 1) (by omega)
theorem printable_ev (s : ByteArray) (hs : s.size ≤ 1099511627776) : Ev (fun k => missiveref09_Printable.f k s) ((bl s).all visB) := by
  unfold missiveref09_Printable.f
  have := printable_l0 s hs s.size 0 (by omega)
  simpa using this

theorem has_l1 (s l : ByteArray) (hs : s.size ≤ 1099511627776) (hl : l.size ≤ 1099511627776) (i : Nat) (hi : i < s.size) (r : Bool)
    (hrest : Ev (fun k => missiveref09_has.l0 k s l ((i + 1 : Nat) : Int)) r) : ∀ (n j : Nat), j + n = l.size →
    Ev (fun k => missiveref09_has.l1 k s l (i : Int) (j : Int)) (((bl l).drop j).contains (byteAt s i) || r)
  | 0, j, hj => by
    have hll := bl_length l
    refine Ev.step (fun k => by simp only [missiveref09_has.l1]; rfl) ?_
    refine ev_no (by omega) ?_
    rw [List.drop_of_length_le (by omega), wrap_up i (by omega)]
    simpa using hrest
  | n + 1, j, hj => by
    refine Ev.step (fun k => by simp only [missiveref09_has.l1]; rfl) ?_
    have hb := bt_byteAt s i hi
    have hb2 := bt_byteAt l j (by omega)
    refine ev_yes (by omega) ?_
    refine ev_yes (by omega) ?_
    refine ev_yes (by omega) ?_
    refine ev_yes (by omega) ?_
    simp only [hb, hb2]
    rw [drop_byteAt l j (by omega)]
    by_cases h : byteAt s i = byteAt l j
    · refine ev_yes (by rw [h]) ?_
      rw [h]
      simp
      exact Ev.now _
    · refine ev_no (fun e => h (by rw [← UInt8.toNat_inj]; omega)) ?_
      have e : (byteAt l j :: (bl l).drop (j + 1)).contains (byteAt s i) = ((bl l).drop (j + 1)).contains (byteAt s i) := by
        rw [List.contains_cons, beq_eq_false_iff_ne.2 h, Bool.false_or]
      rw [e, wrap_up j (by omega)]
      exact has_l1 s l hs hl i hi r hrest n (j + 1) (by omega)
theorem has_l0 (s l : ByteArray) (hs : s.size ≤ 1099511627776) (hl : l.size ≤ 1099511627776) : ∀ (n i : Nat), i + n = s.size →
    Ev (fun k => missiveref09_has.l0 k s l (i : Int)) (((bl s).drop i).any fun c => (bl l).contains c)
  | 0, i, hi => by
    have hll := bl_length s
    refine Ev.step (fun k => by simp only [missiveref09_has.l0]; rfl) ?_
    refine ev_no (by omega) ?_
    exact ev_done (by rw [List.drop_of_length_le (by omega)]; rfl)
  | n + 1, i, hi => by
    refine Ev.step (fun k => by simp only [missiveref09_has.l0]; rfl) ?_
    refine ev_yes (by omega) ?_
    rw [drop_byteAt s i (by omega), List.any_cons]
    have := has_l1 s l hs hl i (by omega) _ (has_l0 s l hs hl n (i + 1) (by omega)) l.size 0 (by omega)
    simpa using this
theorem has_ev (s l : ByteArray) (hs : s.size ≤ 1099511627776) (hl : l.size ≤ 1099511627776) : Ev (fun k => missiveref09_has.f k s l) ((bl s).any fun c => (bl l).contains c) := by
  unfold missiveref09_has.f
  have := has_l0 s l hs hl s.size 0 (by omega)
  simpa using this

theorem all_split (l : List UInt8) : (l.all fun c => visB c && c != 58) = (l.all visB && !(l.any fun c => [(58 : UInt8)].contains c)) := by
  induction l with
  | nil => rfl
  | cons c l ih =>
    rw [List.all_cons, List.all_cons, List.any_cons, ih]
    have e : [(58 : UInt8)].contains c = (c == 58) := by
      rw [List.contains_cons]
      simp
    rw [e]
    cases hv : visB c <;> cases h5 : (c == 58) <;> cases ha : l.all visB <;> simp [bne, h5]
theorem named_ev (s : ByteArray) (hs : s.size ≤ 1099511627776) : Ev (fun k => missiveref09_Named.f k s) (isNameB s) := by
  unfold missiveref09_Named.f isNameB
  simp only [toList_bl]
  by_cases h0 : bl s = []
  · have hz : s.size = 0 := by rw [← bl_length, h0]; rfl
    refine ev_yes h0 (ev_done ?_)
    have : decide (1 ≤ s.size) = false := by rw [hz]; rfl
    rw [this]
    rfl
  · refine ev_no h0 ?_
    have hz : 1 ≤ s.size := by
      rw [← bl_length]
      cases hb : bl s with
      | nil => exact absurd hb h0
      | cons _ _ => simp
    have d1 : decide (1 ≤ s.size) = true := by simpa using hz
    rw [d1, Bool.true_and]
    by_cases h2 : s.size ≤ 200
    · have d2 : decide (s.size ≤ 200) = true := by simpa using h2
      rw [d2, Bool.true_and, all_split]
      refine ev_yes (by omega) ?_
      refine Ev.bind (printable_ev s hs) ?_
      cases hp : (bl s).all visB with
      | false =>
        refine ev_no (by decide) (ev_done ?_)
        rfl
      | true =>
        refine ev_yes (by trivial) ?_
        refine Ev.bind (has_ev s _ hs (by decide)) ?_
        exact ev_done (by rw [Bool.true_and])
    · have d2 : decide (s.size ≤ 200) = false := by simpa using h2
      rw [d2, Bool.false_and]
      exact ev_no (by omega) (Ev.now _)
end Go.Proofs.YtieompfmhnpnaaaGreat.H
