/- Plain laws: Parse at the lines of fields; the lines that fold writes. -/
import Derived.Test.YtieompfmhnpnaaaGreatLLines
namespace Go.Proofs.YtieompfmhnpnaaaGreat.H
open Go.RowKit Go.Proofs.YtieompfmhnpnaaaGreatW.PrintWords Go.Proofs.YtieompfmhnpnaaaGreatW.PrintLast Go.Proofs.YtieompfmhnpnaaaGreatW.PrintMore
set_option linter.unusedVariables false
set_option linter.unusedSimpArgs false

/-- The lines of a field: its first one is the name, a colon and a first part; the others begin with a space. -/
structure FieldLs (name : ByteArray) (ls : List (List UInt8)) (parts : List (List UInt8)) : Prop where
  first : ∃ v0 conts, ls = (bl name ++ 58 :: v0) :: conts ∧ parts = v0 :: conts ∧ ∀ c ∈ conts, ∃ r, c = 32 :: r
  noLF : ∀ l ∈ ls, (10 : UInt8) ∉ l
  noCR : ∀ l ∈ ls, (13 : UInt8) ∉ l

/-- The parts of a value, as Parse keeps them. -/
def partsV (parts : List (List UInt8)) : List ByteArray := parts.foldl (fun vs p => addV vs (mkB p)) []
def endOf (off : Nat) (ls : List (List UInt8)) : Nat := off + (catL ls).length

theorem goP_append (st : PS) (xs ys : List LineX) : goP st (xs ++ ys) = (goP st xs).bind fun s => goP s ys := by
  induction xs generalizing st with
  | nil => rfl
  | cons x xs ih =>
    show (if (stepP st x).2 then goP (stepP st x).1 (xs ++ ys) else none) = (if (stepP st x).2 then goP (stepP st x).1 xs else none).bind _
    split
    · exact ih _
    · rfl
theorem conts_go : ∀ (conts : List (List UInt8)) (off : Nat) (st : PS), 0 < st.fs.length → (∀ c ∈ conts, ∃ r, c = 32 :: r) → (∀ l ∈ conts, (13 : UInt8) ∉ l) →
    goP st (lineXs off conts) = some ⟨st.fs, conts.foldl (fun vs p => addV vs (mkB p)) st.vs, if conts = [] then st.en else endOf off conts⟩
  | [], off, st, _, _, _ => rfl
  | c :: conts, off, st, hf, hb, hcr => by
    obtain ⟨r, hr⟩ := hb c List.mem_cons_self
    have ht := trimCR_no (hcr c List.mem_cons_self)
    have hstep : stepP st ⟨trimCR (mkB c), off, off + c.length + 1⟩ = (⟨st.fs, addV st.vs (mkB c), off + c.length + 1⟩, true) := by
      unfold stepP
      simp only [ht]
      have hne : ¬ (mkB c).size = 0 := by rw [mkB_size, hr]; simp
      have hb0 : byteAt (mkB c) 0 = 32 := by rw [hr]; rfl
      rw [if_neg hne, if_pos ⟨by rw [hb0]; rfl, hf⟩]
    rw [lineXs, goP, hstep, if_pos rfl]
    have ih := conts_go conts (off + c.length + 1) ⟨st.fs, addV st.vs (mkB c), off + c.length + 1⟩ hf (fun x hx => hb x (List.mem_cons_of_mem _ hx)) (fun x hx => hcr x (List.mem_cons_of_mem _ hx))
    rw [ih]
    congr 2
    have hc : catL (c :: conts) = c ++ 10 :: catL conts := by simp [catL]
    by_cases h : conts = []
    · subst h
      simp [endOf, hc, catL]
      omega
    · simp only [if_neg h, if_neg (show ¬ (c :: conts = []) by simp)]
      unfold endOf
      rw [hc]
      simp
      omega
theorem field_go {name : ByteArray} {ls parts : List (List UInt8)} (h : FieldLs name ls parts) (hn : isNameB name = true) (off : Nat) (st : PS) (hl : st.fs.length < 400) :
    goP st (lineXs off ls) = some ⟨doneF st.fs st.vs ++ [⟨name, ⟨#[]⟩⟩], partsV parts, endOf off ls⟩ := by
  obtain ⟨⟨v0, conts, rfl, rfl, hb⟩, _, hcr⟩ := h
  have ht := trimCR_no (hcr _ List.mem_cons_self)
  have hvis : ∀ c ∈ bl name, visB c = true ∧ c ≠ 58 := by
    unfold isNameB at hn
    simp only [Bool.and_eq_true, List.all_eq_true] at hn
    intro c hc
    have := hn.2 c hc
    simp at this
    exact ⟨this.1, this.2⟩
  have hsz : 1 ≤ name.size := by
    unfold isNameB at hn
    simp at hn
    exact hn.1.1
  have hcut : cutAt (mkB (bl name ++ 58 :: v0)) 58 = (name, mkB v0, true) := by
    have := cutAt_cut (s := mkB (bl name ++ 58 :: v0)) (bl_mkB _) (fun hm => (hvis 58 hm).2 rfl)
    rw [this, mkB_bl]
  obtain ⟨c0, cs, hc0⟩ : ∃ c0 cs, bl name = c0 :: cs := by
    cases hbn : bl name with
    | nil => rw [← bl_length, hbn] at hsz; simp at hsz
    | cons c0 cs => exact ⟨c0, cs, rfl⟩
  have hv0 := (hvis c0 (by rw [hc0]; exact List.mem_cons_self)).1
  have hnb : blankB c0 = false := by
    unfold visB at hv0
    unfold blankB
    simp at hv0
    have n1 : (c0 == 32) = false := by
      rw [beq_eq_false_iff_ne]
      intro e
      rw [e] at hv0
      exact absurd hv0.1 (by decide)
    have n2 : (c0 == 9) = false := by
      rw [beq_eq_false_iff_ne]
      intro e
      rw [e] at hv0
      exact absurd hv0.1 (by decide)
    rw [n1, n2]
    rfl
  have hb0 : byteAt (mkB (bl name ++ 58 :: v0)) 0 = c0 := by
    rw [hc0]
    rfl
  have hstep : stepP st ⟨trimCR (mkB (bl name ++ 58 :: v0)), off, off + (bl name ++ 58 :: v0).length + 1⟩ = (⟨doneF st.fs st.vs ++ [⟨name, ⟨#[]⟩⟩], addV [] (mkB v0), off + (bl name ++ 58 :: v0).length + 1⟩, true) := by
    unfold stepP
    simp only [ht]
    have hne : ¬ (mkB (bl name ++ 58 :: v0)).size = 0 := by rw [mkB_size]; simp
    rw [if_neg hne, if_neg (by rw [hb0, hnb]; rintro ⟨h, _⟩; cases h), hcut]
    simp only
    rw [if_neg (by
      rintro (h | h | h)
      · cases h
      · rw [hn] at h; cases h
      · omega)]
  rw [lineXs, goP, hstep, if_pos rfl]
  rw [conts_go conts _ _ (by simp) hb (fun x hx => hcr x (List.mem_cons_of_mem _ hx))]
  congr 2
  have hc : catL ((bl name ++ 58 :: v0) :: conts) = (bl name ++ 58 :: v0) ++ 10 :: catL conts := by simp [catL]
  by_cases h : conts = []
  · subst h
    simp [endOf, catL]
    omega
  · simp only [if_neg h]
    unfold endOf
    rw [hc]
    simp
    omega

theorem lineXs_append : ∀ (ls ms : List (List UInt8)) (off : Nat), lineXs off (ls ++ ms) = lineXs off ls ++ lineXs (endOf off ls) ms
  | [], ms, off => rfl
  | l :: ls, ms, off => by
    rw [List.cons_append, lineXs, lineXs, lineXs_append ls ms, List.cons_append]
    have e : endOf (off + l.length + 1) ls = endOf off (l :: ls) := by
      unfold endOf
      simp [catL]
      omega
    rw [e]
/-- What Parse makes of fields' lines. -/
def parsedF (fs : List (ByteArray × List (List UInt8) × List (List UInt8))) : List S35 := fs.map fun f => ⟨f.1, joinS (partsV f.2.2)⟩
theorem fields_go : ∀ (fs : List (ByteArray × List (List UInt8) × List (List UInt8))) (off : Nat) (st : PS), (∀ f ∈ fs, FieldLs f.1 f.2.1 f.2.2 ∧ isNameB f.1 = true) → st.fs.length + fs.length ≤ 400 →
    ∃ st', goP st (lineXs off (fs.flatMap (·.2.1))) = some st' ∧ doneF st'.fs st'.vs = doneF st.fs st.vs ++ parsedF fs ∧ st'.fs.length = st.fs.length + fs.length ∧ (fs ≠ [] → st'.en = endOf off (fs.flatMap (·.2.1)))
  | [], off, st, _, _ => ⟨st, rfl, by simp [parsedF], rfl, fun h => absurd rfl h⟩
  | f :: fs, off, st, h, hl => by
    obtain ⟨h1, h2⟩ := h f List.mem_cons_self
    have hg := field_go h1 h2 off st (by simp at hl; omega)
    obtain ⟨st', g1, g2, g3, g4⟩ := fields_go fs (endOf off f.2.1) ⟨doneF st.fs st.vs ++ [⟨f.1, ⟨#[]⟩⟩], partsV f.2.2, endOf off f.2.1⟩ (fun x hx => h x (List.mem_cons_of_mem _ hx)) (by simp [doneF_length]; simp at hl; omega)
    have ec : endOf (endOf off f.2.1) (fs.flatMap (·.2.1)) = endOf off ((f :: fs).flatMap (·.2.1)) := by
      unfold endOf
      simp [catL]
      omega
    refine ⟨st', ?_, ?_, ?_, fun _ => ?_⟩
    · rw [List.flatMap_cons, lineXs_append, goP_append, hg]
      exact g1
    · rw [g2, doneF_snoc]
      simp [parsedF]
    · rw [g3]
      simp [doneF_length]
      omega
    · by_cases e : fs = []
      · subst e
        have : st' = ⟨doneF st.fs st.vs ++ [⟨f.1, ⟨#[]⟩⟩], partsV f.2.2, endOf off f.2.1⟩ := (Option.some.inj g1).symm
        rw [this]
        simp [endOf, catL]
      · rw [g4 e, ec]
end Go.Proofs.YtieompfmhnpnaaaGreat.H
