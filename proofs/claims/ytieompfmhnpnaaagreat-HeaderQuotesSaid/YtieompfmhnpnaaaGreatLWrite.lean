/- Plain laws. -/
import Derived.Test.YtieompfmhnpnaaaGreatXParse
import Derived.Test.YtieompfmhnpnaaaGreatXWrite
/-! Plain laws: the lines of a text, and what Parse makes of the lines of a field. -/
namespace Go.Proofs.YtieompfmhnpnaaaGreat.H
open Go.RowKit Go.Proofs.YtieompfmhnpnaaaGreatW.PrintWords Go.Proofs.YtieompfmhnpnaaaGreatW.PrintLast Go.Proofs.YtieompfmhnpnaaaGreatW.PrintMore
set_option linter.unusedVariables false
set_option linter.unusedSimpArgs false

theorem indexByte_cut {l r : List UInt8} {c : UInt8} (h : c ∉ l) : Lib.indexByte (l ++ c :: r) c = l.length := by
  induction l with
  | nil => simp [Lib.indexByte]
  | cons b l ih =>
    have hb : (b == c) = false := by
      rw [beq_eq_false_iff_ne]
      exact fun e => h (by rw [e]; exact List.mem_cons_self)
    have ih := ih (fun hm => h (List.mem_cons_of_mem _ hm))
    rw [List.cons_append, Lib.indexByte, hb, ih]
    have h1 : (((l.length : Nat) : Int) == -1) = false := by
      rw [beq_eq_false_iff_ne]; omega
    rw [h1]
    simp
theorem indexByte_not {l : List UInt8} {c : UInt8} (h : c ∉ l) : Lib.indexByte l c = -1 := by
  induction l with
  | nil => rfl
  | cons b l ih =>
    have hb : (b == c) = false := by
      rw [beq_eq_false_iff_ne]
      exact fun e => h (by rw [e]; exact List.mem_cons_self)
    rw [Lib.indexByte, hb, ih (fun hm => h (List.mem_cons_of_mem _ hm))]
    rfl
theorem cutAt_cut {s : ByteArray} {l r : List UInt8} {c : UInt8} (hs : bl s = l ++ c :: r) (h : c ∉ l) : cutAt s c = (mkB l, mkB r, true) := by
  have hi : Lib.indexByte s.data.toList c = l.length := by
    have : s.data.toList = l ++ c :: r := hs
    rw [this]
    exact indexByte_cut h
  have hl : s.size = l.length + 1 + r.length := by rw [← bl_length, hs]; simp; omega
  unfold cutAt
  rw [hi]
  simp only [Int.toNat_natCast]
  rw [if_pos (by omega)]
  have e1 : s.extract 0 l.length = mkB l := bl_inj (by rw [bl_extract, hs, bl_mkB]; simp)
  have e2 : s.extract (l.length + 1) s.size = mkB r := bl_inj (by
    rw [bl_extract (s := s)]
    rw [hs, List.take_of_length_le (by simp; omega), List.drop_append]
    simp)
  rw [e1, e2]
theorem cutAt_not {s : ByteArray} {c : UInt8} (h : c ∉ bl s) : cutAt s c = (s, ⟨#[]⟩, false) := by
  unfold cutAt
  have : Lib.indexByte s.data.toList c = -1 := indexByte_not h
  rw [this]
  rfl

/-- Lines, each with its LF. -/
def catL (ls : List (List UInt8)) : List UInt8 := ls.flatMap fun l => l ++ [10]
def lineXs : Nat → List (List UInt8) → List LineX
  | _, [] => []
  | off, l :: ls => ⟨trimCR (mkB l), off, off + l.length + 1⟩ :: lineXs (off + l.length + 1) ls
theorem linesAt_cat (T : ByteArray) : ∀ (ls : List (List UInt8)) (k : Nat) (pre rest : List UInt8), bl T = pre ++ (catL ls ++ rest) → (∀ l ∈ ls, (10 : UInt8) ∉ l) →
    linesAt T (k + ls.length) pre.length = lineXs pre.length ls ++ linesAt T k (pre ++ catL ls).length
  | [], k, pre, rest, _, _ => by simp [lineXs, catL]
  | l :: ls, k, pre, rest, hT, hn => by
    have hc : catL (l :: ls) = l ++ 10 :: catL ls := by simp [catL]
    have hlen : T.size = pre.length + (l.length + 1 + (catL ls).length) + rest.length := by rw [← bl_length, hT, hc]; simp; omega
    have hx : bl (T.extract pre.length T.size) = l ++ 10 :: (catL ls ++ rest) := by
      rw [bl_extract, List.take_of_length_le (by rw [bl_length]; exact Nat.le_refl _), hT, List.drop_left, hc]
      simp
    have hcut := cutAt_cut hx (hn l List.mem_cons_self)
    have hline : lineAt T pre.length = ⟨trimCR (mkB l), pre.length, pre.length + l.length + 1⟩ := by
      unfold lineAt
      rw [hcut]
      simp only [mkB_size]
      rfl
    rw [List.length_cons, show k + (ls.length + 1) = (k + ls.length) + 1 by omega, linesAt, if_pos (by omega), hline]
    have ih := linesAt_cat T ls k (pre ++ (l ++ [10])) rest (by rw [hT, hc]; simp) (fun x hx => hn x (List.mem_cons_of_mem _ hx))
    have e1 : (pre ++ (l ++ [10])).length = pre.length + l.length + 1 := by simp; omega
    rw [e1] at ih
    rw [ih, lineXs]
    have e2 : pre ++ (l ++ [10]) ++ catL ls = pre ++ catL (l :: ls) := by rw [hc]; simp
    rw [e2]
    rfl
theorem catL_length (ls : List (List UInt8)) : ls.length ≤ (catL ls).length := by
  induction ls with
  | nil => simp
  | cons l ls ih =>
    have hc : catL (l :: ls) = l ++ 10 :: catL ls := by simp [catL]
    rw [hc]
    simp
    omega
theorem linesOf_cat (ls : List (List UInt8)) (rest : List UInt8) (hn : ∀ l ∈ ls, (10 : UInt8) ∉ l) :
    ∃ k, 1 + rest.length ≤ k ∧ linesOf (mkB (catL ls ++ rest)) = lineXs 0 ls ++ linesAt (mkB (catL ls ++ rest)) k (catL ls).length := by
  have hs : (mkB (catL ls ++ rest)).size = (catL ls).length + rest.length := by rw [mkB_size]; simp
  have hl := catL_length ls
  refine ⟨(mkB (catL ls ++ rest)).size + 1 - ls.length, by omega, ?_⟩
  have := linesAt_cat (mkB (catL ls ++ rest)) ls ((mkB (catL ls ++ rest)).size + 1 - ls.length) [] rest (by rw [bl_mkB]; rfl) hn
  unfold linesOf
  rw [show (mkB (catL ls ++ rest)).size + 1 = ((mkB (catL ls ++ rest)).size + 1 - ls.length) + ls.length by omega]
  simpa using this
theorem linesAt_done (T : ByteArray) (k : Nat) : linesAt T k T.size = [] := by
  cases k with
  | zero => rfl
  | succ k => rw [linesAt, if_neg (by omega)]
/-- .. behind it an empty line. -/
theorem linesAt_empty (T : ByteArray) (k : Nat) (pre rest : List UInt8) (hT : bl T = pre ++ 10 :: rest) (hk : 1 ≤ k) :
    ∃ more, linesAt T k pre.length = ⟨⟨#[]⟩, pre.length, pre.length + 1⟩ :: more := by
  obtain ⟨k, rfl⟩ : ∃ m, k = m + 1 := ⟨k - 1, by omega⟩
  have hlen : T.size = pre.length + (1 + rest.length) := by rw [← bl_length, hT]; simp; omega
  have hx : bl (T.extract pre.length T.size) = [] ++ 10 :: rest := by
    rw [bl_extract, List.take_of_length_le (by rw [bl_length]; exact Nat.le_refl _), hT, List.drop_left]
    rfl
  have hcut := cutAt_cut hx (by simp)
  have hline : lineAt T pre.length = ⟨⟨#[]⟩, pre.length, pre.length + 1⟩ := by
    unfold lineAt
    rw [hcut]
    simp only [mkB_size]
    rfl
  rw [linesAt, if_pos (by omega), hline]
  exact ⟨_, rfl⟩

/-- A line without CR is its own content. -/
theorem trimCR_no {l : List UInt8} (h : (13 : UInt8) ∉ l) : trimCR (mkB l) = mkB l := by
  unfold trimCR
  rw [if_neg]
  rintro ⟨h1, h2⟩
  rw [toList_bl, bl_extract, bl_mkB] at h2
  apply h
  have : (13 : UInt8) ∈ (l.take (mkB l).size).drop ((mkB l).size - 1) := by rw [h2]; simp
  exact List.mem_of_mem_take (List.mem_of_mem_drop this)
end Go.Proofs.YtieompfmhnpnaaaGreat.H

/-! Plain laws: Parse at the lines of fields; the lines that fold writes. -/
namespace Go.Proofs.YtieompfmhnpnaaaGreat.H
open Go.RowKit Go.Proofs.YtieompfmhnpnaaaGreatW.PrintWords Go.Proofs.YtieompfmhnpnaaaGreatW.PrintLast Go.Proofs.YtieompfmhnpnaaaGreatW.PrintMore
set_option linter.unusedVariables false
set_option linter.unusedSimpArgs false

/-- The lines of a field: its first one is the name, a colon and a first part; the others begin with a space. -/
structure FieldLs (name : ByteArray) (ls : List (List UInt8)) (parts : List (List UInt8)) : Prop where
  first : ∃ v0 conts, ls = (bl name ++ 58 :: v0) :: conts ∧ parts = v0 :: conts ∧ ∀ c ∈ conts, ∃ r, c = 32 :: r
  noLF : ∀ l ∈ ls, (10 : UInt8) ∉ l
  noCR : ∀ l ∈ ls, (13 : UInt8) ∉ l

/-- The parts of a value, as Parse keeps them. -/
def partsV (parts : List (List UInt8)) : List ByteArray := parts.foldl (fun vs p => addV vs (mkB p)) []
def endOf (off : Nat) (ls : List (List UInt8)) : Nat := off + (catL ls).length

theorem goP_append (st : PS) (xs ys : List LineX) : goP st (xs ++ ys) = (goP st xs).bind fun s => goP s ys := by
  induction xs generalizing st with
  | nil => rfl
  | cons x xs ih =>
    show (if (stepP st x).2 then goP (stepP st x).1 (xs ++ ys) else none) = (if (stepP st x).2 then goP (stepP st x).1 xs else none).bind _
    split
    · exact ih _
    · rfl
theorem conts_go : ∀ (conts : List (List UInt8)) (off : Nat) (st : PS), 0 < st.fs.length → (∀ c ∈ conts, ∃ r, c = 32 :: r) → (∀ l ∈ conts, (13 : UInt8) ∉ l) →
    goP st (lineXs off conts) = some ⟨st.fs, conts.foldl (fun vs p => addV vs (mkB p)) st.vs, if conts = [] then st.en else endOf off conts⟩
  | [], off, st, _, _, _ => rfl
  | c :: conts, off, st, hf, hb, hcr => by
    obtain ⟨r, hr⟩ := hb c List.mem_cons_self
    have ht := trimCR_no (hcr c List.mem_cons_self)
    have hstep : stepP st ⟨trimCR (mkB c), off, off + c.length + 1⟩ = (⟨st.fs, addV st.vs (mkB c), off + c.length + 1⟩, true) := by
      unfold stepP
      simp only [ht]
      have hne : ¬ (mkB c).size = 0 := by rw [mkB_size, hr]; simp
      have hb0 : byteAt (mkB c) 0 = 32 := by rw [hr]; rfl
      rw [if_neg hne, if_pos ⟨by rw [hb0]; rfl, hf⟩]
    rw [lineXs, goP, hstep, if_pos rfl]
    have ih := conts_go conts (off + c.length + 1) ⟨st.fs, addV st.vs (mkB c), off + c.length + 1⟩ hf (fun x hx => hb x (List.mem_cons_of_mem _ hx)) (fun x hx => hcr x (List.mem_cons_of_mem _ hx))
    rw [ih]
    congr 2
    have hc : catL (c :: conts) = c ++ 10 :: catL conts := by simp [catL]
    by_cases h : conts = []
    · subst h
      simp [endOf, hc, catL]
      omega
    · simp only [if_neg h, if_neg (show ¬ (c :: conts = []) by simp)]
      unfold endOf
      rw [hc]
      simp
      omega
theorem field_go {name : ByteArray} {ls parts : List (List UInt8)} (h : FieldLs name ls parts) (hn : isNameB name = true) (off : Nat) (st : PS) (hl : st.fs.length < 400) :
    goP st (lineXs off ls) = some ⟨doneF st.fs st.vs ++ [⟨name, ⟨#[]⟩⟩], partsV parts, endOf off ls⟩ := by
  obtain ⟨⟨v0, conts, rfl, rfl, hb⟩, _, hcr⟩ := h
  have ht := trimCR_no (hcr _ List.mem_cons_self)
  have hvis : ∀ c ∈ bl name, visB c = true ∧ c ≠ 58 := by
    unfold isNameB at hn
    simp only [Bool.and_eq_true, List.all_eq_true] at hn
    intro c hc
    have := hn.2 c hc
    simp at this
    exact ⟨this.1, this.2⟩
  have hsz : 1 ≤ name.size := by
    unfold isNameB at hn
    simp at hn
    exact hn.1.1
  have hcut : cutAt (mkB (bl name ++ 58 :: v0)) 58 = (name, mkB v0, true) := by
    have := cutAt_cut (s := mkB (bl name ++ 58 :: v0)) (bl_mkB _) (fun hm => (hvis 58 hm).2 rfl)
    rw [this, mkB_bl]
  obtain ⟨c0, cs, hc0⟩ : ∃ c0 cs, bl name = c0 :: cs := by
    cases hbn : bl name with
    | nil => rw [← bl_length, hbn] at hsz; simp at hsz
    | cons c0 cs => exact ⟨c0, cs, rfl⟩
  have hv0 := (hvis c0 (by rw [hc0]; exact List.mem_cons_self)).1
  have hnb : blankB c0 = false := by
    unfold visB at hv0
    unfold blankB
    simp at hv0
    have n1 : (c0 == 32) = false := by
      rw [beq_eq_false_iff_ne]
      intro e
      rw [e] at hv0
      exact absurd hv0.1 (by decide)
    have n2 : (c0 == 9) = false := by
      rw [beq_eq_false_iff_ne]
      intro e
      rw [e] at hv0
      exact absurd hv0.1 (by decide)
    rw [n1, n2]
    rfl
  have hb0 : byteAt (mkB (bl name ++ 58 :: v0)) 0 = c0 := by
    rw [hc0]
    rfl
  have hstep : stepP st ⟨trimCR (mkB (bl name ++ 58 :: v0)), off, off + (bl name ++ 58 :: v0).length + 1⟩ = (⟨doneF st.fs st.vs ++ [⟨name, ⟨#[]⟩⟩], addV [] (mkB v0), off + (bl name ++ 58 :: v0).length + 1⟩, true) := by
    unfold stepP
    simp only [ht]
    have hne : ¬ (mkB (bl name ++ 58 :: v0)).size = 0 := by rw [mkB_size]; simp
    rw [if_neg hne, if_neg (by rw [hb0, hnb]; rintro ⟨h, _⟩; cases h), hcut]
    simp only
    rw [if_neg (by
      rintro (h | h | h)
      · cases h
      · rw [hn] at h; cases h
      · omega)]
  rw [lineXs, goP, hstep, if_pos rfl]
  rw [conts_go conts _ _ (by simp) hb (fun x hx => hcr x (List.mem_cons_of_mem _ hx))]
  congr 2
  have hc : catL ((bl name ++ 58 :: v0) :: conts) = (bl name ++ 58 :: v0) ++ 10 :: catL conts := by simp [catL]
  by_cases h : conts = []
  · subst h
    simp [endOf, catL]
    omega
  · simp only [if_neg h]
    unfold endOf
    rw [hc]
    simp
    omega

theorem lineXs_append : ∀ (ls ms : List (List UInt8)) (off : Nat), lineXs off (ls ++ ms) = lineXs off ls ++ lineXs (endOf off ls) ms
  | [], ms, off => rfl
  | l :: ls, ms, off => by
    rw [List.cons_append, lineXs, lineXs, lineXs_append ls ms, List.cons_append]
    have e : endOf (off + l.length + 1) ls = endOf off (l :: ls) := by
      unfold endOf
      simp [catL]
      omega
    rw [e]
/-- What Parse makes of fields' lines. -/
def parsedF (fs : List (ByteArray × List (List UInt8) × List (List UInt8))) : List S35 := fs.map fun f => ⟨f.1, joinS (partsV f.2.2)⟩
theorem fields_go : ∀ (fs : List (ByteArray × List (List UInt8) × List (List UInt8))) (off : Nat) (st : PS), (∀ f ∈ fs, FieldLs f.1 f.2.1 f.2.2 ∧ isNameB f.1 = true) → st.fs.length + fs.length ≤ 400 →
    ∃ st', goP st (lineXs off (fs.flatMap (·.2.1))) = some st' ∧ doneF st'.fs st'.vs = doneF st.fs st.vs ++ parsedF fs ∧ st'.fs.length = st.fs.length + fs.length ∧ (fs ≠ [] → st'.en = endOf off (fs.flatMap (·.2.1)))
  | [], off, st, _, _ => ⟨st, rfl, by simp [parsedF], rfl, fun h => absurd rfl h⟩
  | f :: fs, off, st, h, hl => by
    obtain ⟨h1, h2⟩ := h f List.mem_cons_self
    have hg := field_go h1 h2 off st (by simp at hl; omega)
    obtain ⟨st', g1, g2, g3, g4⟩ := fields_go fs (endOf off f.2.1) ⟨doneF st.fs st.vs ++ [⟨f.1, ⟨#[]⟩⟩], partsV f.2.2, endOf off f.2.1⟩ (fun x hx => h x (List.mem_cons_of_mem _ hx)) (by simp [doneF_length]; simp at hl; omega)
    have ec : endOf (endOf off f.2.1) (fs.flatMap (·.2.1)) = endOf off ((f :: fs).flatMap (·.2.1)) := by
      unfold endOf
      simp [catL]
      omega
    refine ⟨st', ?_, ?_, ?_, fun _ => ?_⟩
    · rw [List.flatMap_cons, lineXs_append, goP_append, hg]
      exact g1
    · rw [g2, doneF_snoc]
      simp [parsedF]
    · rw [g3]
      simp [doneF_length]
      omega
    · by_cases e : fs = []
      · subst e
        have : st' = ⟨doneF st.fs st.vs ++ [⟨f.1, ⟨#[]⟩⟩], partsV f.2.2, endOf off f.2.1⟩ := (Option.some.inj g1).symm
        rw [this]
        simp [endOf, catL]
      · rw [g4 e, ec]
end Go.Proofs.YtieompfmhnpnaaaGreat.H

/-! Plain laws: the lines that Write writes. -/
namespace Go.Proofs.YtieompfmhnpnaaaGreat.H
open Go.RowKit Go.Proofs.YtieompfmhnpnaaaGreatW.PrintWords Go.Proofs.YtieompfmhnpnaaaGreatW.PrintLast Go.Proofs.YtieompfmhnpnaaaGreatW.PrintMore
set_option linter.unusedVariables false
set_option linter.unusedSimpArgs false

/-! ### parsing lines -/
theorem parse_cat (fs : List (ByteArray × List (List UInt8) × List (List UInt8))) (h : ∀ f ∈ fs, FieldLs f.1 f.2.1 f.2.2 ∧ isNameB f.1 = true) (hl : fs.length ≤ 400) :
    parseS (mkB (catL (fs.flatMap (·.2.1)))) = (parsedF fs, (catL (fs.flatMap (·.2.1))).length) := by
  have hno : ∀ l ∈ fs.flatMap (·.2.1), (10 : UInt8) ∉ l := fun l hm => by
    obtain ⟨f, hf, hm⟩ := List.mem_flatMap.1 hm
    exact (h f hf).1.noLF l hm
  obtain ⟨k, hk, hlines⟩ := linesOf_cat (fs.flatMap (·.2.1)) [] hno
  rw [List.append_nil] at hlines
  have hd := linesAt_done (mkB (catL (fs.flatMap (·.2.1)))) k
  rw [mkB_size] at hd
  rw [hd, List.append_nil] at hlines
  obtain ⟨st', g1, g2, g3, g4⟩ := fields_go fs 0 ⟨[], [], 0⟩ h (by simpa using hl)
  unfold parseS
  rw [hlines, foldP_of_goP g1]
  simp only [g2, doneF_nil, List.nil_append]
  congr 1
  by_cases e : fs = []
  · subst e
    have : st' = ⟨[], [], 0⟩ := (Option.some.inj g1).symm
    rw [this]
    rfl
  · rw [g4 e]
    unfold endOf
    omega
theorem parse_cat_rest (fs : List (ByteArray × List (List UInt8) × List (List UInt8))) (body : List UInt8) (h : ∀ f ∈ fs, FieldLs f.1 f.2.1 f.2.2 ∧ isNameB f.1 = true) (hl : fs.length ≤ 400) :
    parseS (mkB (catL (fs.flatMap (·.2.1)) ++ 10 :: body)) = (parsedF fs, (catL (fs.flatMap (·.2.1))).length + 1) := by
  have hno : ∀ l ∈ fs.flatMap (·.2.1), (10 : UInt8) ∉ l := fun l hm => by
    obtain ⟨f, hf, hm⟩ := List.mem_flatMap.1 hm
    exact (h f hf).1.noLF l hm
  obtain ⟨k, hk, hlines⟩ := linesOf_cat (fs.flatMap (·.2.1)) (10 :: body) hno
  obtain ⟨more, hmore⟩ := linesAt_empty (mkB (catL (fs.flatMap (·.2.1)) ++ 10 :: body)) k (catL (fs.flatMap (·.2.1))) body (bl_mkB _) (by omega)
  rw [hmore] at hlines
  obtain ⟨st', g1, g2, g3, g4⟩ := fields_go fs 0 ⟨[], [], 0⟩ h (by simpa using hl)
  have hst : stepP st' ⟨⟨#[]⟩, (catL (fs.flatMap (·.2.1))).length, (catL (fs.flatMap (·.2.1))).length + 1⟩ = (⟨st'.fs, st'.vs, (catL (fs.flatMap (·.2.1))).length + 1⟩, false) := by
    unfold stepP
    exact if_pos rfl
  have hs := foldP_stop (rest := more) g1 (by rw [hst])
  unfold parseS
  rw [hlines]
  rw [List.append_assoc, List.singleton_append] at hs
  rw [hs, hst]
  simp only [g2, doneF_nil, List.nil_append]

/-! ### folding -/
theorem downTo_spec (p : Nat → Bool) (lo : Nat) : ∀ n, downTo p lo n ≠ 0 → lo < downTo p lo n ∧ p (downTo p lo n) = true
  | 0, h => absurd rfl h
  | n + 1, h => by
    unfold downTo at h ⊢
    by_cases h1 : n + 1 ≤ lo
    · rw [if_pos h1] at h
      exact absurd rfl h
    · rw [if_neg h1] at h ⊢
      by_cases h2 : p (n + 1) = true
      · rw [if_pos h2]
        exact ⟨by omega, h2⟩
      · rw [if_neg h2] at h ⊢
        exact downTo_spec p lo n h
theorem upTo_spec (p : Nat → Bool) : ∀ f i, upTo p i f ≠ 0 → i ≤ upTo p i f ∧ upTo p i f < i + f ∧ p (upTo p i f) = true
  | 0, i, h => absurd rfl h
  | f + 1, i, h => by
    unfold upTo at h ⊢
    by_cases h2 : p i = true
    · rw [if_pos h2]
      exact ⟨Nat.le_refl _, by omega, h2⟩
    · rw [if_neg h2] at h ⊢
      have := upTo_spec p f (i + 1) h
      exact ⟨by omega, by omega, this.2.2⟩
theorem foldAt_spec (s : ByteArray) (b : Nat) (h : 0 < foldAtS s b) : b < foldAtS s b ∧ foldAtS s b ≤ 998 ∧ foldAtS s b + 2 ≤ s.size ∧ isFoldB s (foldAtS s b) = true := by
  unfold foldAtS at h ⊢
  simp only at h ⊢
  by_cases hd : downTo (isFoldB s) b (min 78 (min 998 (s.size - 2))) = 0
  · rw [if_pos hd] at h ⊢
    have := upTo_spec (isFoldB s) _ _ (show upTo (isFoldB s) (max 78 b + 1) (min 998 (s.size - 2) - max 78 b) ≠ 0 by omega)
    exact ⟨by omega, by omega, by omega, this.2.2⟩
  · rw [if_neg hd] at h ⊢
    have h1 := downTo_spec (isFoldB s) b _ hd
    have h2 := downTo_le (isFoldB s) b (min 78 (min 998 (s.size - 2)))
    exact ⟨h1.1, by omega, by omega, h1.2⟩

/-- The lines that fold writes. -/
def foldLs : Nat → ByteArray → Nat → List (List UInt8)
  | 0, s, _ => [bl s]
  | f + 1, s, bound =>
    if s.size ≤ 78 then [bl s]
    else if 0 < foldAtS s bound then bl (s.extract 0 (foldAtS s bound)) :: foldLs f (s.extract (foldAtS s bound) s.size) 0
    else if s.size ≤ 998 then [bl s]
    else bl (s.extract 0 998) :: foldLs f (⟨#[32]⟩ ++ s.extract 998 s.size) 0
theorem foldL_cat : ∀ (f : Nat) (s : ByteArray) (b : Nat), foldL f s b = catL (foldLs f s b)
  | 0, s, b => by simp [foldL, foldLs, catL]
  | f + 1, s, b => by
    unfold foldL foldLs
    split
    · simp [catL]
    · split
      · rw [foldL_cat f]
        rfl
      · split
        · simp [catL]
        · rw [foldL_cat f]
          rfl
theorem foldLs_spec : ∀ (f : Nat) (s : ByteArray) (b : Nat), ∃ j conts, foldLs f s b = (bl s).take j :: conts ∧ (b ≤ 998 → b ≤ j ∨ s.size ≤ j) ∧ (0 < s.size → 0 < j) ∧ (∀ c ∈ conts, ∃ r, c = 32 :: r) ∧
      ∀ x : UInt8, x ≠ 32 → x ∉ bl s → ∀ l ∈ foldLs f s b, x ∉ l
  | 0, s, b => by
    refine ⟨s.size, [], ?_, fun _ => .inr (Nat.le_refl _), fun h => h, (fun c hc => by cases hc), fun x _ hx l hl => ?_⟩
    · rw [← bl_length, List.take_length]; rfl
    · obtain rfl : l = bl s := by simpa [foldLs] using hl
      exact hx
  | f + 1, s, b => by
    unfold foldLs
    have whole : ∃ j conts, [bl s] = (bl s).take j :: conts ∧ (b ≤ 998 → b ≤ j ∨ s.size ≤ j) ∧ (0 < s.size → 0 < j) ∧ (∀ c ∈ conts, ∃ r, c = (32 : UInt8) :: r) ∧ ∀ x : UInt8, x ≠ 32 → x ∉ bl s → ∀ l ∈ [bl s], x ∉ l := by
      refine ⟨s.size, [], ?_, fun _ => .inr (Nat.le_refl _), fun h => h, (fun c hc => by cases hc), fun x _ hx l hl => ?_⟩
      · rw [← bl_length, List.take_length]
      · obtain rfl : l = bl s := by simpa using hl
        exact hx
    split
    · exact whole
    · rename_i h78
      split
      · rename_i hf
        obtain ⟨h1, h2, h3, h4⟩ := foldAt_spec s b hf
        obtain ⟨j, conts, e1, e2, e3, e4, e5⟩ := foldLs_spec f (s.extract (foldAtS s b) s.size) 0
        have hb : bl (s.extract (foldAtS s b) s.size) = 32 :: (bl s).drop (foldAtS s b + 1) := by
          rw [bl_extract, List.take_of_length_le (by rw [bl_length]; exact Nat.le_refl _), drop_byteAt s _ (by omega)]
          have : byteAt s (foldAtS s b) = 32 := by
            unfold isFoldB at h4
            simp at h4
            exact h4.1.1
          rw [this]
        refine ⟨foldAtS s b, foldLs f (s.extract (foldAtS s b) s.size) 0, ?_, fun _ => .inl (by omega), fun _ => by omega, ?_, ?_⟩
        · rw [bl_extract]
          simp
        · intro c hc
          rw [e1] at hc
          rcases List.mem_cons.1 hc with rfl | hc
          · have hj := e3 (by rw [← bl_length, hb]; simp)
            obtain ⟨j, rfl⟩ : ∃ m, j = m + 1 := ⟨j - 1, by omega⟩
            rw [hb]
            exact ⟨_, rfl⟩
          · exact e4 c hc
        · intro x hx32 hx l hl
          rcases List.mem_cons.1 hl with rfl | hl
          · rw [bl_extract]
            exact fun hm => hx (List.mem_of_mem_take (List.mem_of_mem_drop hm))
          · refine e5 x hx32 ?_ l hl
            rw [bl_extract]
            exact fun hm => hx (List.mem_of_mem_take (List.mem_of_mem_drop hm))
      · split
        · exact whole
        · rename_i h998
          obtain ⟨j, conts, e1, e2, e3, e4, e5⟩ := foldLs_spec f (⟨#[32]⟩ ++ s.extract 998 s.size) 0
          have hb : bl ((⟨#[32]⟩ : ByteArray) ++ s.extract 998 s.size) = 32 :: bl (s.extract 998 s.size) := by rw [bl_append]; rfl
          refine ⟨998, foldLs f (⟨#[32]⟩ ++ s.extract 998 s.size) 0, ?_, fun h => .inl h, fun _ => by omega, ?_, ?_⟩
          · rw [bl_extract]
            simp
          · intro c hc
            rw [e1] at hc
            rcases List.mem_cons.1 hc with rfl | hc
            · have hj := e3 (by rw [← bl_length, hb]; simp)
              obtain ⟨j, rfl⟩ : ∃ m, j = m + 1 := ⟨j - 1, by omega⟩
              rw [hb]
              exact ⟨_, rfl⟩
            · exact e4 c hc
          · intro x hx32 hx l hl
            rcases List.mem_cons.1 hl with rfl | hl
            · rw [bl_extract]
              exact fun hm => hx (List.mem_of_mem_take (List.mem_of_mem_drop hm))
            · refine e5 x hx32 ?_ l hl
              rw [hb]
              intro hm
              rcases List.mem_cons.1 hm with e | hm
              · exact hx32 e
              · rw [bl_extract] at hm
                exact hx (List.mem_of_mem_take (List.mem_of_mem_drop hm))
end Go.Proofs.YtieompfmhnpnaaaGreat.H

/-! Plain laws: what Write writes, as lines of fields. -/
namespace Go.Proofs.YtieompfmhnpnaaaGreat.H
open Go.RowKit Go.Proofs.YtieompfmhnpnaaaGreatW.PrintWords Go.Proofs.YtieompfmhnpnaaaGreatW.PrintLast Go.Proofs.YtieompfmhnpnaaaGreatW.PrintMore
set_option linter.unusedVariables false
set_option linter.unusedSimpArgs false

/-- Spaces for CR and LF. -/
def crlfB (c : UInt8) : UInt8 := if c = 13 ∨ c = 10 then 32 else c
theorem tab_at256 : ∀ n : Fin 256, (tab2 13 32 10 32).getD n.val 0 = ((crlfB (UInt8.ofNat n.val)).toNat : Int) := by decide +kernel
theorem tab_at (c : UInt8) : tv (tab2 13 32 10 32) c = ((crlfB c).toNat : Int) := by
  have := tab_at256 ⟨c.toNat, c.toNat_lt⟩
  unfold tv
  rw [this]
  simp
theorem bl_crlf (s : ByteArray) : bl (crlfS s) = (bl s).map crlfB := by
  unfold crlfS tabS
  have e : s.data.toList.map (tv (tab2 13 32 10 32)) = byteInts ((bl s).map crlfB) := by
    unfold byteInts
    rw [List.map_map]
    exact List.map_congr_left (fun c _ => tab_at c)
  rw [e, byteInts_back]
theorem crlfB_no (c x : UInt8) (hx : x = 13 ∨ x = 10) : crlfB c ≠ x := by
  unfold crlfB
  split
  · rcases hx with rfl | rfl <;> decide
  · rename_i h
    rcases hx with rfl | rfl
    · exact fun e => h (.inl e)
    · exact fun e => h (.inr e)
theorem crlf_no (s : ByteArray) (x : UInt8) (hx : x = 13 ∨ x = 10) : x ∉ bl (crlfS s) := by
  rw [bl_crlf]
  intro hm
  obtain ⟨c, _, hc⟩ := List.mem_map.1 hm
  exact crlfB_no c x hx hc
theorem trim_mem {s : ByteArray} {x : UInt8} (h : x ∈ bl (trimS s)) : x ∈ bl s := by
  unfold trimS at h
  rw [bl_mkB] at h
  unfold trimL rtrim at h
  have h1 := List.mem_reverse.1 h
  have h2 := (List.dropWhile_suffix _).subset h1
  have h3 := List.mem_reverse.1 h2
  exact (List.dropWhile_suffix _).subset h3
theorem name_vis {name : ByteArray} (hn : isNameB name = true) : ∀ c ∈ bl name, visB c = true ∧ c ≠ 58 := by
  unfold isNameB at hn
  simp only [Bool.and_eq_true, List.all_eq_true] at hn
  intro c hc
  have := hn.2 c hc
  simp at this
  exact ⟨this.1, this.2⟩
theorem vis_no {c x : UInt8} (hv : visB c = true) (hx : x = 13 ∨ x = 10 ∨ x = 32) : c ≠ x := by
  intro e
  subst e
  unfold visB at hv
  rcases hx with rfl | rfl | rfl <;> exact absurd hv (by decide)
theorem line_no {f : S35} (hn : isNameB f.f0 = true) (x : UInt8) (hx : x = 13 ∨ x = 10) : x ∉ bl (lineS f) := by
  have h0 : x ∉ bl f.f0 := fun hm => vis_no ((name_vis hn x hm).1) (by rcases hx with h | h; exact .inl h; exact .inr (.inl h)) rfl
  have h58 : x ∉ bl (⟨#[58]⟩ : ByteArray) := by rcases hx with rfl | rfl <;> decide
  have h32 : x ∉ bl (⟨#[32]⟩ : ByteArray) := by rcases hx with rfl | rfl <;> decide
  have ht : x ∉ bl (trimS (crlfS f.f1)) := fun hm => crlf_no f.f1 x hx (trim_mem hm)
  unfold lineS
  split
  · rw [bl_append]
    simp only [List.mem_append]
    rintro (h | h)
    · exact h0 h
    · exact h58 h
  · rw [bl_append, bl_append, bl_append]
    simp only [List.mem_append]
    rintro ((h | h) | (h | h))
    · exact h0 h
    · exact h58 h
    · exact h32 h
    · exact ht h
theorem line_head (f : S35) : ∃ w, bl (lineS f) = bl f.f0 ++ 58 :: w := by
  unfold lineS
  split
  · exact ⟨[], by rw [bl_append]⟩
  · refine ⟨bl ((⟨#[32]⟩ : ByteArray) ++ trimS (crlfS f.f1)), ?_⟩
    rw [bl_append, bl_append]
    simp [bl]

/-- The lines that are written of a field. -/
def fieldLs (f : S35) : List (List UInt8) := foldLs (lineS f).size (lineS f) (f.f0.size + 1)
/-- The parts of its value. -/
def fieldPs (f : S35) : List (List UInt8) :=
  match fieldLs f with
  | [] => []
  | l :: conts => l.drop (f.f0.size + 1) :: conts
theorem fieldL_cat (f : S35) (h : isNameB f.f0 = true) : fieldL f = catL (fieldLs f) := by
  unfold fieldL fieldLs
  rw [if_pos h, foldL_cat]
theorem fieldLs_ok (f : S35) (h : isNameB f.f0 = true) : FieldLs f.f0 (fieldLs f) (fieldPs f) := by
  obtain ⟨w, hw⟩ := line_head f
  have hsz : f.f0.size ≤ 200 := by
    unfold isNameB at h
    simp at h
    exact h.1.2
  obtain ⟨j, conts, e1, e2, e3, e4, e5⟩ := foldLs_spec (lineS f).size (lineS f) (f.f0.size + 1)
  have hlen : (lineS f).size = f.f0.size + 1 + w.length := by rw [← bl_length, hw]; simp; omega
  have hj : f.f0.size + 1 ≤ j := by
    rcases e2 (by omega) with h | h <;> omega
  have hfirst : (bl (lineS f)).take j = bl f.f0 ++ 58 :: w.take (j - (f.f0.size + 1)) := by
    rw [hw, List.take_append, bl_length]
    have e : j - f.f0.size = (j - (f.f0.size + 1)) + 1 := by omega
    rw [e, List.take_succ_cons, List.take_of_length_le (by rw [bl_length]; omega)]
  refine ⟨⟨w.take (j - (f.f0.size + 1)), conts, ?_, ?_, e4⟩, ?_, ?_⟩
  · unfold fieldLs
    rw [e1, hfirst]
  · unfold fieldPs fieldLs
    rw [e1, hfirst]
    simp only
    congr 1
    have : bl f.f0 ++ 58 :: w.take (j - (f.f0.size + 1)) = (bl f.f0 ++ [58]) ++ w.take (j - (f.f0.size + 1)) := by simp
    rw [this]
    have hl : f.f0.size + 1 = (bl f.f0 ++ [58]).length := by simp
    rw [hl, List.drop_left]
  · exact e5 10 (by decide) (line_no h 10 (.inr rfl))
  · exact e5 13 (by decide) (line_no h 13 (.inl rfl))

/-- The fields that are written, with their lines. -/
def writtenF (l : List S35) : List (ByteArray × List (List UInt8) × List (List UInt8)) := (l.filter fun f => isNameB f.f0).map fun f => (f.f0, fieldLs f, fieldPs f)
theorem writeL_cat (l : List S35) : writeL l = catL ((writtenF l).flatMap (·.2.1)) := by
  induction l with
  | nil => rfl
  | cons f l ih =>
    have e1 : writeL (f :: l) = fieldL f ++ writeL l := rfl
    rw [e1, ih]
    unfold writtenF
    by_cases h : isNameB f.f0 = true
    · rw [List.filter_cons_of_pos (p := fun f : S35 => isNameB f.f0) h, fieldL_cat f h]
      simp [catL]
    · rw [List.filter_cons_of_neg (p := fun f : S35 => isNameB f.f0) h]
      have : fieldL f = [] := by unfold fieldL; rw [if_neg h]
      rw [this]
      rfl
theorem writtenF_ok (l : List S35) : ∀ f ∈ writtenF l, FieldLs f.1 f.2.1 f.2.2 ∧ isNameB f.1 = true := by
  intro f hf
  obtain ⟨g, hg, rfl⟩ := List.mem_map.1 hf
  have := (List.mem_filter.1 hg).2
  exact ⟨fieldLs_ok g this, this⟩
theorem writtenF_length (l : List S35) : (writtenF l).length ≤ l.length := by
  unfold writtenF
  rw [List.length_map]
  exact List.length_filter_le _ _
/-- What Parse makes of what Write wrote. -/
theorem parse_write (l : List S35) (hl : l.length ≤ 400) : parseS (mkB (writeL l)) = (parsedF (writtenF l), (writeL l).length) := by
  rw [writeL_cat]
  exact parse_cat _ (writtenF_ok l) (Nat.le_trans (writtenF_length l) hl)
theorem parse_write_rest (l : List S35) (body : List UInt8) (hl : l.length ≤ 400) : parseS (mkB (writeL l ++ 10 :: body)) = (parsedF (writtenF l), (writeL l).length + 1) := by
  rw [writeL_cat]
  exact parse_cat_rest _ body (writtenF_ok l) (Nat.le_trans (writtenF_length l) hl)
end Go.Proofs.YtieompfmhnpnaaaGreat.H
