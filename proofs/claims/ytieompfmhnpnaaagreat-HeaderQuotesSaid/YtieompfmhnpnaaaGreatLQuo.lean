/- Plain laws: a quoted value comes back. -/
import Derived.Test.YtieompfmhnpnaaaGreatXQuote
import Derived.Test.YtieompfmhnpnaaaGreatXParams
namespace Go.Proofs.YtieompfmhnpnaaaGreat.H
open Go.RowKit Go.Proofs.YtieompfmhnpnaaaGreatW.PrintWords Go.Proofs.YtieompfmhnpnaaaGreatW.PrintLast Go.Proofs.YtieompfmhnpnaaaGreatW.PrintMore
set_option linter.unusedVariables false
set_option linter.unusedSimpArgs false

theorem unq_esc : ∀ (xs acc : List UInt8), unqL (xs.flatMap escL ++ [34]) acc = (acc ++ xs, true)
  | [], acc => by simp [unqL]
  | c :: xs, acc => by
    rw [List.flatMap_cons, List.append_assoc]
    by_cases h1 : c = 34
    · subst h1
      show unqL (92 :: 34 :: (xs.flatMap escL ++ [34])) acc = _
      rw [unqL, if_neg (by decide), if_pos rfl, unq_esc xs]
      simp
    · by_cases h2 : c = 92
      · subst h2
        show unqL (92 :: 92 :: (xs.flatMap escL ++ [34])) acc = _
        rw [unqL, if_neg (by decide), if_pos rfl, unq_esc xs]
        simp
      · have e : escL c = [c] := by unfold escL; rw [if_neg h1, if_neg h2]
        rw [e, List.singleton_append]
        have ih := unq_esc xs (acc ++ [c])
        cases hr : xs.flatMap escL ++ [34] with
        | nil => simp at hr
        | cons d r =>
          rw [hr] at ih
          rw [unqL, if_neg h1, if_neg h2, ih]
          simp
theorem value_back (v : ByteArray) : valueS (mkB (valL v)) = (v, true) := by
  unfold valL
  by_cases h : isTokenB v = true
  · rw [if_pos h, mkB_bl]
    unfold isTokenB at h
    simp only [Bool.and_eq_true, List.all_eq_true, Bool.not_eq_true'] at h
    obtain ⟨h1, h2⟩ := h
    have hv : ∀ c ∈ bl v, visB c = true ∧ c ≠ 34 := fun c hc => by
      have := h1 c hc
      unfold tokB at this
      simp only [Bool.and_eq_true, Bool.not_eq_true'] at this
      refine ⟨this.1, ?_⟩
      rintro rfl
      exact absurd this.2 (by decide)
    unfold valueS
    rw [if_neg (fun hh => (hv 34 (List.mem_of_head? hh)).2 rfl), if_pos, h2]
    · rfl
    · rw [List.all_eq_true]
      intro c hc
      have := hv c hc
      simp [this.1, this.2]
  · rw [if_neg h]
    unfold valueS
    rw [bl_mkB, if_pos (by rfl)]
    show unqB (unqL (bl (escS v) ++ [34]) []) = _
    unfold escS
    rw [bl_mkB, unq_esc]
    rfl
end Go.Proofs.YtieompfmhnpnaaaGreat.H
