/- Plain law of HeaderSets. -/
import Derived.Test.YtieompfmhnpnaaaGreatLSame
namespace Go.Proofs.YtieompfmhnpnaaaGreat.H
open Go.RowKit Go.Proofs.YtieompfmhnpnaaaGreatW.PrintWords Go.Proofs.YtieompfmhnpnaaaGreatW.PrintLast Go.Proofs.YtieompfmhnpnaaaGreatW.PrintMore
set_option linter.unusedVariables false
set_option linter.unusedSimpArgs false

theorem get_set (nm v : ByteArray) : ∀ l, getS (setL nm v false l) nm = (v, true)
  | [] => by simp [setL, getS, sameB_refl]
  | f :: fs => by
    rw [setL]
    by_cases h : sameB f.f0 nm = true
    · rw [if_pos h]
      simp [getS, sameB_refl]
    · rw [if_neg h, getS, if_neg h]
      exact get_set nm v fs
theorem all_set_true (nm v : ByteArray) : ∀ l, allS (setL nm v true l) nm = []
  | [] => by simp [setL, allS]
  | f :: fs => by
    rw [setL]
    by_cases h : sameB f.f0 nm = true
    · rw [if_pos h, if_pos rfl]
      exact all_set_true nm v fs
    · rw [if_neg h]
      have := all_set_true nm v fs
      unfold allS at *
      rw [List.filter_cons_of_neg (p := fun f : S35 => sameB f.f0 nm) h]
      exact this
theorem all_set (nm v : ByteArray) : ∀ l, allS (setL nm v false l) nm = [v]
  | [] => by simp [setL, allS, sameB_refl]
  | f :: fs => by
    rw [setL]
    by_cases h : sameB f.f0 nm = true
    · rw [if_pos h, if_neg (by decide)]
      have := all_set_true nm v fs
      unfold allS at *
      rw [List.filter_cons_of_pos (p := fun f : S35 => sameB f.f0 nm) (sameB_refl nm), List.map_cons, this]
    · rw [if_neg h]
      have := all_set nm v fs
      unfold allS at *
      rw [List.filter_cons_of_neg (p := fun f : S35 => sameB f.f0 nm) h]
      exact this
theorem drop_set (nm v : ByteArray) : ∀ (b : Bool) (l : List S35), dropS (setL nm v b l) nm = dropS l nm
  | true, [] => rfl
  | false, [] => by simp [setL, dropS, sameB_refl]
  | b, f :: fs => by
    rw [setL]
    by_cases h : sameB f.f0 nm = true
    · rw [if_pos h]
      have e : dropS (f :: fs) nm = dropS fs nm := by unfold dropS; rw [List.filter_cons_of_neg (by simp [h])]
      rw [e]
      cases b with
      | true => rw [if_pos rfl]; exact drop_set nm v true fs
      | false =>
        rw [if_neg (by decide)]
        have e2 : dropS (⟨nm, v⟩ :: setL nm v true fs) nm = dropS (setL nm v true fs) nm := by unfold dropS; rw [List.filter_cons_of_neg (by simp [sameB_refl])]
        rw [e2]
        exact drop_set nm v true fs
    · rw [if_neg h]
      have := drop_set nm v b fs
      unfold dropS at *
      rw [List.filter_cons_of_pos (by simp [h]), List.filter_cons_of_pos (by simp [h]), this]
theorem set_set_true (nm v : ByteArray) : ∀ l, setL nm v true (setL nm v true l) = setL nm v true l
  | [] => rfl
  | f :: fs => by
    rw [setL]
    by_cases h : sameB f.f0 nm = true
    · rw [if_pos h, if_pos rfl]
      exact set_set_true nm v fs
    · rw [if_neg h, setL, if_neg h, set_set_true nm v fs]
theorem set_set (nm v : ByteArray) : ∀ l, setL nm v false (setL nm v false l) = setL nm v false l
  | [] => by simp [setL, sameB_refl]
  | f :: fs => by
    rw [setL]
    by_cases h : sameB f.f0 nm = true
    · rw [if_pos h, if_neg (by decide), setL, if_pos (sameB_refl nm), if_neg (by decide), set_set_true]
    · rw [if_neg h, setL, if_neg h, set_set nm v fs]
theorem get_drop (nm : ByteArray) : ∀ l, (getS (dropS l nm) nm).2 = false
  | [] => rfl
  | f :: fs => by
    have ih := get_drop nm fs
    unfold dropS at *
    by_cases h : sameB f.f0 nm = true
    · rw [List.filter_cons_of_neg (by simp [h])]
      exact ih
    · rw [List.filter_cons_of_pos (by simp [h]), getS, if_neg h]
      exact ih
theorem get_all (nm : ByteArray) : ∀ l : List S35, getS l nm = match allS l nm with | [] => ((⟨#[]⟩ : ByteArray), false) | x :: _ => (x, true)
  | [] => rfl
  | f :: fs => by
    have ih := get_all nm fs
    unfold allS at *
    rw [getS]
    by_cases h : sameB f.f0 nm = true
    · rw [if_pos h, List.filter_cons_of_pos (p := fun f : S35 => sameB f.f0 nm) h]
      rfl
    · rw [if_neg h, List.filter_cons_of_neg (p := fun f : S35 => sameB f.f0 nm) h]
      exact ih
theorem drop_all_length (nm : ByteArray) : ∀ l : List S35, (dropS l nm).length + (allS l nm).length = l.length
  | [] => rfl
  | f :: fs => by
    have ih := drop_all_length nm fs
    unfold dropS allS at *
    by_cases h : sameB f.f0 nm = true
    · rw [List.filter_cons_of_neg (by simp [h]), List.filter_cons_of_pos (p := fun f : S35 => sameB f.f0 nm) h]
      simp at *
      omega
    · rw [List.filter_cons_of_pos (by simp [h]), List.filter_cons_of_neg (p := fun f : S35 => sameB f.f0 nm) h]
      simp at *
      omega
theorem setL_small {nm v : ByteArray} (hn : nm.size ≤ 1099511627776) : ∀ (b : Bool) {l : List S35}, (∀ f ∈ l, f.f0.size ≤ 1099511627776) → (setL nm v b l).length ≤ l.length + 1 ∧ ∀ f ∈ setL nm v b l, f.f0.size ≤ 1099511627776
  | true, [], _ => by simp [setL]
  | false, [], _ => by
    refine ⟨by simp [setL], fun f hf => ?_⟩
    simp [setL] at hf
    subst hf
    exact hn
  | b, f :: fs, h => by
    have i1 := setL_small (v := v) hn b (l := fs) (fun g hg => h g (List.mem_cons_of_mem _ hg))
    have i2 := setL_small (v := v) hn true (l := fs) (fun g hg => h g (List.mem_cons_of_mem _ hg))
    rw [setL]
    split
    · split
      · exact ⟨by rw [List.length_cons]; omega, i1.2⟩
      · refine ⟨by rw [List.length_cons, List.length_cons]; omega, fun g hg => ?_⟩
        rcases List.mem_cons.1 hg with rfl | hg
        · exact hn
        · exact i2.2 g hg
    · refine ⟨by rw [List.length_cons, List.length_cons]; omega, fun g hg => ?_⟩
      rcases List.mem_cons.1 hg with rfl | hg
      · exact h _ List.mem_cons_self
      · exact i1.2 g hg
theorem dropS_small {nm : ByteArray} {l : List S35} (h : Small35 l) : Small35 (dropS l nm) := by
  unfold dropS
  exact ⟨Nat.le_trans (List.length_filter_le _ _) h.1, fun f hf => h.2 f ((List.mem_filter.1 hf).1)⟩
end Go.Proofs.YtieompfmhnpnaaaGreat.H
