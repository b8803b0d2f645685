/- Plain laws: the pieces of a quoted list. -/
import Derived.Test.YtieompfmhnpnaaaGreatLQuo
import Derived.Test.YtieompfmhnpnaaaGreatLNamed
namespace Go.Proofs.YtieompfmhnpnaaaGreat.H
open Go.RowKit Go.Proofs.YtieompfmhnpnaaaGreatW.PrintWords Go.Proofs.YtieompfmhnpnaaaGreatW.PrintLast Go.Proofs.YtieompfmhnpnaaaGreatW.PrintMore
set_option linter.unusedVariables false
set_option linter.unusedSimpArgs false

theorem scan_plain (s : ByteArray) (fr : Nat) : ∀ (n k i : Nat), i + n ≤ s.size → (∀ j, i ≤ j → j < i + n → byteAt s j ≠ 34 ∧ byteAt s j ≠ 59) →
    piecesAt s (k + n) fr false i = piecesAt s k fr false (i + n)
  | 0, k, i, _, _ => rfl
  | n + 1, k, i, hi, h => by
    have h0 := h i (Nat.le_refl _) (by omega)
    rw [← Nat.add_assoc, piecesAt, if_pos (by omega), if_neg (fun e => by cases e.2), if_neg h0.1, if_neg (fun e => h0.2 e.1),
      scan_plain s fr n k (i + 1) (by omega) (fun j h1 h2 => h j (by omega) (by omega))]
    have e : i + 1 + n = i + (n + 1) := by omega
    rw [e]
theorem pieces_fuel (s : ByteArray) : ∀ (k k' fr i : Nat) (q : Bool), s.size ≤ i + k → s.size ≤ i + k' → piecesAt s k fr q i = piecesAt s k' fr q i
  | 0, k', fr, i, q, h1, h2 => by rw [piecesAt_end s k' fr i q (by omega), piecesAt_end s 0 fr i q (by omega)]
  | k + 1, 0, fr, i, q, h1, h2 => by rw [piecesAt_end s (k + 1) fr i q (by omega), piecesAt_end s 0 fr i q (by omega)]
  | k + 1, k' + 1, fr, i, q, h1, h2 => by
    rw [piecesAt, piecesAt]
    rw [pieces_fuel s k k' fr (i + 2) q (by omega) (by omega), pieces_fuel s k k' fr (i + 1) (!q) (by omega) (by omega),
      pieces_fuel s k k' (i + 1) (i + 1) q (by omega) (by omega), pieces_fuel s k k' fr (i + 1) q (by omega) (by omega)]
/-- The bytes at a place. -/
def AtL (s : ByteArray) (i : Nat) (t : List UInt8) : Prop := ∀ j, (h : j < t.length) → i + j < s.size ∧ byteAt s (i + j) = t[j]
theorem scan_quote (s : ByteArray) (fr : Nat) : ∀ (xs : List UInt8) (i k : Nat), AtL s i (xs.flatMap escL) → s.size ≤ i + k →
    piecesAt s k fr true i = piecesAt s k fr true (i + (xs.flatMap escL).length)
  | [], i, k, _, _ => rfl
  | c :: xs, i, k, h, hk => by
    rw [List.flatMap_cons] at h ⊢
    have hne : 0 < (escL c).length := by unfold escL; split <;> (try split) <;> simp
    have h0 := h 0 (by rw [List.length_append]; omega)
    obtain ⟨k, rfl⟩ : ∃ m, k = m + 1 := ⟨k - 1, by omega⟩
    have hrest : AtL s (i + (escL c).length) (xs.flatMap escL) := fun j hj => by
      have := h ((escL c).length + j) (by rw [List.length_append]; omega)
      rw [List.getElem_append_right (by omega)] at this
      simpa [Nat.add_assoc] using this
    have ih := scan_quote s fr xs (i + (escL c).length) (k + 1) hrest (by omega)
    rw [List.length_append, ← Nat.add_assoc, ← ih]
    by_cases hc : c = 34 ∨ c = 92
    · have e2 : (escL c).length = 2 := by rcases hc with rfl | rfl <;> rfl
      have e92 : byteAt s i = 92 := by
        have := h0.2
        rcases hc with rfl | rfl <;> simpa [escL] using this
      rw [piecesAt, if_pos (by have := h0.1; omega), if_pos ⟨e92, rfl⟩, e2]
      exact pieces_fuel s _ _ _ _ _ (by omega) (by omega)
    · have e : escL c = [c] := by unfold escL; rw [if_neg (fun h => hc (.inl h)), if_neg (fun h => hc (.inr h))]
      have ec : byteAt s i = c := by
        have := h0.2
        simpa [e] using this
      rw [piecesAt, if_pos (by have := h0.1; omega), ec, if_neg (fun h => hc (.inr h.1)), if_neg (fun h => hc (.inl h)), if_neg (fun h => by cases h.2), e]
      exact pieces_fuel s _ _ _ _ _ (by omega) (by omega)
theorem token_ev (s : ByteArray) (hs : s.size ≤ 1099511627776) : Ev (fun k => missiveref09_Token.f k s) (isTokenB s) := by
  unfold missiveref09_Token.f
  by_cases h0 : bl s = []
  · have e : isTokenB s = false := by unfold isTokenB; rw [h0]; rfl
    rw [e]
    exact ev_yes (by rw [toList_bl, h0]) (Ev.now _)
  · refine ev_no (by rw [toList_bl]; exact h0) ?_
    refine Ev.bind (printable_ev s hs) ?_
    by_cases h1 : (bl s).all visB = true
    · refine ev_yes h1 ?_
      refine Ev.bind (has_ev s _ hs (by decide)) ?_
      refine ev_done ?_
      unfold isTokenB
      have h2 : (bl s).isEmpty = false := by simpa using h0
      rw [h2]
      rw [List.all_eq_true] at h1
      rw [Bool.eq_iff_iff]
      simp only [Bool.not_eq_true', List.any_eq_false, Bool.and_eq_true, List.all_eq_true, Bool.not_false, and_true]
      constructor
      · intro h c hc
        unfold tokB
        have := h c hc
        rw [h1 c hc]
        have h5 : specB.contains c = false := Bool.eq_false_iff.2 this
        rw [h5]
        rfl
      · intro h c hc
        have := h c hc
        unfold tokB at this
        simp only [Bool.and_eq_true, Bool.not_eq_true'] at this
        have h3 := this.2
        intro h4
        exact absurd (h3.symm.trans h4) (by decide)
    · refine ev_no h1 (ev_done ?_)
      unfold isTokenB
      symm
      rw [Bool.and_eq_false_iff]
      left
      apply Bool.eq_false_iff.2
      intro h
      apply h1
      rw [List.all_eq_true] at h ⊢
      intro c hc
      have := h c hc
      unfold tokB at this
      simp only [Bool.and_eq_true] at this
      exact this.1
end Go.Proofs.YtieompfmhnpnaaaGreat.H
