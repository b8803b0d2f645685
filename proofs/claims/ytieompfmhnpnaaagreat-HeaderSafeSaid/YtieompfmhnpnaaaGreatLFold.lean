/- Plain laws: the lines that Write writes. -/
import Derived.Test.YtieompfmhnpnaaaGreatLField
namespace Go.Proofs.YtieompfmhnpnaaaGreat.H
open Go.RowKit Go.Proofs.YtieompfmhnpnaaaGreatW.PrintWords Go.Proofs.YtieompfmhnpnaaaGreatW.PrintLast Go.Proofs.YtieompfmhnpnaaaGreatW.PrintMore
set_option linter.unusedVariables false
set_option linter.unusedSimpArgs false

/-! ### parsing lines -/
theorem parse_cat (fs : List (ByteArray × List (List UInt8) × List (List UInt8))) (h : ∀ f ∈ fs, FieldLs f.1 f.2.1 f.2.2 ∧ isNameB f.1 = true) (hl : fs.length ≤ 400) :
    parseS (mkB (catL (fs.flatMap (·.2.1)))) = (parsedF fs, (catL (fs.flatMap (·.2.1))).length) := by
  have hno : ∀ l ∈ fs.flatMap (·.2.1), (10 : UInt8) ∉ l := fun l hm => by
    obtain ⟨f, hf, hm⟩ := List.mem_flatMap.1 hm
    exact (h f hf).1.noLF l hm
  obtain ⟨k, hk, hlines⟩ := linesOf_cat (fs.flatMap (·.2.1)) [] hno
  rw [List.append_nil] at hlines
  have hd := linesAt_done (mkB (catL (fs.flatMap (·.2.1)))) k
  rw [mkB_size] at hd
  rw [hd, List.append_nil] at hlines
  obtain ⟨st', g1, g2, g3, g4⟩ := fields_go fs 0 ⟨[], [], 0⟩ h (by simpa using hl)
  unfold parseS
  rw [hlines, foldP_of_goP g1]
  simp only [g2, doneF_nil, List.nil_append]
  congr 1
  by_cases e : fs = []
  · subst e
    have : st' = ⟨[], [], 0⟩ := (Option.some.inj g1).symm
    rw [this]
    rfl
  · rw [g4 e]
    unfold endOf
    omega
theorem parse_cat_rest (fs : List (ByteArray × List (List UInt8) × List (List UInt8))) (body : List UInt8) (h : ∀ f ∈ fs, FieldLs f.1 f.2.1 f.2.2 ∧ isNameB f.1 = true) (hl : fs.length ≤ 400) :
    parseS (mkB (catL (fs.flatMap (·.2.1)) ++ 10 :: body)) = (parsedF fs, (catL (fs.flatMap (·.2.1))).length + 1) := by
  have hno : ∀ l ∈ fs.flatMap (·.2.1), (10 : UInt8) ∉ l := fun l hm => by
    obtain ⟨f, hf, hm⟩ := List.mem_flatMap.1 hm
    exact (h f hf).1.noLF l hm
  obtain ⟨k, hk, hlines⟩ := linesOf_cat (fs.flatMap (·.2.1)) (10 :: body) hno
  obtain ⟨more, hmore⟩ := linesAt_empty (mkB (catL (fs.flatMap (·.2.1)) ++ 10 :: body)) k (catL (fs.flatMap (·.2.1))) body (bl_mkB _) (by omega)
  rw [hmore] at hlines
  obtain ⟨st', g1, g2, g3, g4⟩ := fields_go fs 0 ⟨[], [], 0⟩ h (by simpa using hl)
  have hst : stepP st' ⟨⟨#[]⟩, (catL (fs.flatMap (·.2.1))).length, (catL (fs.flatMap (·.2.1))).length + 1⟩ = (⟨st'.fs, st'.vs, (catL (fs.flatMap (·.2.1))).length + 1⟩, false) := by
    unfold stepP
    exact if_pos rfl
  have hs := foldP_stop (rest := more) g1 (by rw [hst])
  unfold parseS
  rw [hlines]
  rw [List.append_assoc, List.singleton_append] at hs
  rw [hs, hst]
  simp only [g2, doneF_nil, List.nil_append]

/-! ### folding -/
theorem downTo_spec (p : Nat → Bool) (lo : Nat) : ∀ n, downTo p lo n ≠ 0 → lo < downTo p lo n ∧ p (downTo p lo n) = true
  | 0, h => absurd rfl h
  | n + 1, h => by
    unfold downTo at h ⊢
    by_cases h1 : n + 1 ≤ lo
    · rw [if_pos h1] at h
      exact absurd rfl h
    · rw [if_neg h1] at h ⊢
      by_cases h2 : p (n + 1) = true
      · rw [if_pos h2]
        exact ⟨by omega, h2⟩
      · rw [if_neg h2] at h ⊢
        exact downTo_spec p lo n h
theorem upTo_spec (p : Nat → Bool) : ∀ f i, upTo p i f ≠ 0 → i ≤ upTo p i f ∧ upTo p i f < i + f ∧ p (upTo p i f) = true
  | 0, i, h => absurd rfl h
  | f + 1, i, h => by
    unfold upTo at h ⊢
    by_cases h2 : p i = true
    · rw [if_pos h2]
      exact ⟨Nat.le_refl _, by omega, h2⟩
    · rw [if_neg h2] at h ⊢
      have := upTo_spec p f (i + 1) h
      exact ⟨by omega, by omega, this.2.2⟩
theorem foldAt_spec (s : ByteArray) (b : Nat) (h : 0 < foldAtS s b) : b < foldAtS s b ∧ foldAtS s b ≤ 998 ∧ foldAtS s b + 2 ≤ s.size ∧ isFoldB s (foldAtS s b) = true := by
  unfold foldAtS at h ⊢
  simp only at h ⊢
  by_cases hd : downTo (isFoldB s) b (min 78 (min 998 (s.size - 2))) = 0
  · rw [if_pos hd] at h ⊢
    have := upTo_spec (isFoldB s) _ _ (show upTo (isFoldB s) (max 78 b + 1) (min 998 (s.size - 2) - max 78 b) ≠ 0 by omega)
    exact ⟨by omega, by omega, by omega, this.2.2⟩
  · rw [if_neg hd] at h ⊢
    have h1 := downTo_spec (isFoldB s) b _ hd
    have h2 := downTo_le (isFoldB s) b (min 78 (min 998 (s.size - 2)))
    exact ⟨h1.1, by omega, by omega, h1.2⟩

/-- The lines that fold writes. -/
def foldLs : Nat → ByteArray → Nat → List (List UInt8)
  | 0, s, _ => [bl s]
  | f + 1, s, bound =>
    if s.size ≤ 78 then [bl s]
    else if 0 < foldAtS s bound then bl (s.extract 0 (foldAtS s bound)) :: foldLs f (s.extract (foldAtS s bound) s.size) 0
    else if s.size ≤ 998 then [bl s]
    else bl (s.extract 0 998) :: foldLs f (⟨#[32]⟩ ++ s.extract 998 s.size) 0
theorem foldL_cat : ∀ (f : Nat) (s : ByteArray) (b : Nat), foldL f s b = catL (foldLs f s b)
  | 0, s, b => by simp [foldL, foldLs, catL]
  | f + 1, s, b => by
    unfold foldL foldLs
    split
    · simp [catL]
    · split
      · rw [foldL_cat f]
        rfl
      · split
        · simp [catL]
        · rw [foldL_cat f]
          rfl
theorem foldLs_spec : ∀ (f : Nat) (s : ByteArray) (b : Nat), ∃ j conts, foldLs f s b = (bl s).take j :: conts ∧ (b ≤ 998 → b ≤ j ∨ s.size ≤ j) ∧ (0 < s.size → 0 < j) ∧ (∀ c ∈ conts, ∃ r, c = 32 :: r) ∧
      ∀ x : UInt8, x ≠ 32 → x ∉ bl s → ∀ l ∈ foldLs f s b, x ∉ l
  | 0, s, b => by
    refine ⟨s.size, [], ?_, fun _ => .inr (Nat.le_refl _), fun h => h, (fun c hc => by cases hc), fun x _ hx l hl => ?_⟩
    · rw [← bl_length, List.take_length]; rfl
    · obtain rfl : l = bl s := by simpa [foldLs] using hl
      exact hx
  | f + 1, s, b => by
    unfold foldLs
    have whole : ∃ j conts, [bl s] = (bl s).take j :: conts ∧ (b ≤ 998 → b ≤ j ∨ s.size ≤ j) ∧ (0 < s.size → 0 < j) ∧ (∀ c ∈ conts, ∃ r, c = (32 : UInt8) :: r) ∧ ∀ x : UInt8, x ≠ 32 → x ∉ bl s → ∀ l ∈ [bl s], x ∉ l := by
      refine ⟨s.size, [], ?_, fun _ => .inr (Nat.le_refl _), fun h => h, (fun c hc => by cases hc), fun x _ hx l hl => ?_⟩
      · rw [← bl_length, List.take_length]
      · obtain rfl : l = bl s := by simpa using hl
        exact hx
    split
    · exact whole
    · rename_i h78
      split
      · rename_i hf
        obtain ⟨h1, h2, h3, h4⟩ := foldAt_spec s b hf
        obtain ⟨j, conts, e1, e2, e3, e4, e5⟩ := foldLs_spec f (s.extract (foldAtS s b) s.size) 0
        have hb : bl (s.extract (foldAtS s b) s.size) = 32 :: (bl s).drop (foldAtS s b + 1) := by
          rw [bl_extract, List.take_of_length_le (by rw [bl_length]; exact Nat.le_refl _), drop_byteAt s _ (by omega)]
          have : byteAt s (foldAtS s b) = 32 := by
            unfold isFoldB at h4
            simp at h4
            exact h4.1.1
          rw [this]
        refine ⟨foldAtS s b, foldLs f (s.extract (foldAtS s b) s.size) 0, ?_, fun _ => .inl (by omega), fun _ => by omega, ?_, ?_⟩
        · rw [bl_extract]
          simp
        · intro c hc
          rw [e1] at hc
          rcases List.mem_cons.1 hc with rfl | hc
          · have hj := e3 (by rw [← bl_length, hb]; simp)
            obtain ⟨j, rfl⟩ : ∃ m, j = m + 1 := ⟨j - 1, by omega⟩
            rw [hb]
            exact ⟨_, rfl⟩
          · exact e4 c hc
        · intro x hx32 hx l hl
          rcases List.mem_cons.1 hl with rfl | hl
          · rw [bl_extract]
            exact fun hm => hx (List.mem_of_mem_take (List.mem_of_mem_drop hm))
          · refine e5 x hx32 ?_ l hl
            rw [bl_extract]
            exact fun hm => hx (List.mem_of_mem_take (List.mem_of_mem_drop hm))
      · split
        · exact whole
        · rename_i h998
          obtain ⟨j, conts, e1, e2, e3, e4, e5⟩ := foldLs_spec f (⟨#[32]⟩ ++ s.extract 998 s.size) 0
          have hb : bl ((⟨#[32]⟩ : ByteArray) ++ s.extract 998 s.size) = 32 :: bl (s.extract 998 s.size) := by rw [bl_append]; rfl
          refine ⟨998, foldLs f (⟨#[32]⟩ ++ s.extract 998 s.size) 0, ?_, fun h => .inl h, fun _ => by omega, ?_, ?_⟩
          · rw [bl_extract]
            simp
          · intro c hc
            rw [e1] at hc
            rcases List.mem_cons.1 hc with rfl | hc
            · have hj := e3 (by rw [← bl_length, hb]; simp)
              obtain ⟨j, rfl⟩ : ∃ m, j = m + 1 := ⟨j - 1, by omega⟩
              rw [hb]
              exact ⟨_, rfl⟩
            · exact e4 c hc
          · intro x hx32 hx l hl
            rcases List.mem_cons.1 hl with rfl | hl
            · rw [bl_extract]
              exact fun hm => hx (List.mem_of_mem_take (List.mem_of_mem_drop hm))
            · refine e5 x hx32 ?_ l hl
              rw [hb]
              intro hm
              rcases List.mem_cons.1 hm with e | hm
              · exact hx32 e
              · rw [bl_extract] at hm
                exact hx (List.mem_of_mem_take (List.mem_of_mem_drop hm))
end Go.Proofs.YtieompfmhnpnaaaGreat.H
