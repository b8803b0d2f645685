/- Plain laws: what Write writes, as lines of fields. -/
import Derived.Test.YtieompfmhnpnaaaGreatLFold
namespace Go.Proofs.YtieompfmhnpnaaaGreat.H
open Go.RowKit Go.Proofs.YtieompfmhnpnaaaGreatW.PrintWords Go.Proofs.YtieompfmhnpnaaaGreatW.PrintLast Go.Proofs.YtieompfmhnpnaaaGreatW.PrintMore
set_option linter.unusedVariables false
set_option linter.unusedSimpArgs false

/-- Spaces for CR and LF. -/
def crlfB (c : UInt8) : UInt8 := if c = 13 ∨ c = 10 then 32 else c
theorem tab_at256 : ∀ n : Fin 256, (tab2 13 32 10 32).getD n.val 0 = ((crlfB (UInt8.ofNat n.val)).toNat : Int) := by decide +kernel
theorem tab_at (c : UInt8) : tv (tab2 13 32 10 32) c = ((crlfB c).toNat : Int) := by
  have := tab_at256 ⟨c.toNat, c.toNat_lt⟩
  unfold tv
  rw [this]
  simp
theorem bl_crlf (s : ByteArray) : bl (crlfS s) = (bl s).map crlfB := by
  unfold crlfS tabS
  have e : s.data.toList.map (tv (tab2 13 32 10 32)) = byteInts ((bl s).map crlfB) := by
    unfold byteInts
    rw [List.map_map]
    exact List.map_congr_left (fun c _ => tab_at c)
  rw [e, byteInts_back]
theorem crlfB_no (c x : UInt8) (hx : x = 13 ∨ x = 10) : crlfB c ≠ x := by
  unfold crlfB
  split
  · rcases hx with rfl | rfl <;> decide
  · rename_i h
    rcases hx with rfl | rfl
    · exact fun e => h (.inl e)
    · exact fun e => h (.inr e)
theorem crlf_no (s : ByteArray) (x : UInt8) (hx : x = 13 ∨ x = 10) : x ∉ bl (crlfS s) := by
  rw [bl_crlf]
  intro hm
  obtain ⟨c, _, hc⟩ := List.mem_map.1 hm
  exact crlfB_no c x hx hc
theorem trim_mem {s : ByteArray} {x : UInt8} (h : x ∈ bl (trimS s)) : x ∈ bl s := by
  unfold trimS at h
  rw [bl_mkB] at h
  unfold trimL rtrim at h
  have h1 := List.mem_reverse.1 h
  have h2 := (List.dropWhile_suffix _).subset h1
  have h3 := List.mem_reverse.1 h2
  exact (List.dropWhile_suffix _).subset h3
theorem name_vis {name : ByteArray} (hn : isNameB name = true) : ∀ c ∈ bl name, visB c = true ∧ c ≠ 58 := by
  unfold isNameB at hn
  simp only [Bool.and_eq_true, List.all_eq_true] at hn
  intro c hc
  have := hn.2 c hc
  simp at this
  exact ⟨this.1, this.2⟩
theorem vis_no {c x : UInt8} (hv : visB c = true) (hx : x = 13 ∨ x = 10 ∨ x = 32) : c ≠ x := by
  intro e
  subst e
  unfold visB at hv
  rcases hx with rfl | rfl | rfl <;> exact absurd hv (by decide)
theorem line_no {f : S35} (hn : isNameB f.f0 = true) (x : UInt8) (hx : x = 13 ∨ x = 10) : x ∉ bl (lineS f) := by
  have h0 : x ∉ bl f.f0 := fun hm => vis_no ((name_vis hn x hm).1) (by rcases hx with h | h; exact .inl h; exact .inr (.inl h)) rfl
  have h58 : x ∉ bl (⟨#[58]⟩ : ByteArray) := by rcases hx with rfl | rfl <;> decide
  have h32 : x ∉ bl (⟨#[32]⟩ : ByteArray) := by rcases hx with rfl | rfl <;> decide
  have ht : x ∉ bl (trimS (crlfS f.f1)) := fun hm => crlf_no f.f1 x hx (trim_mem hm)
  unfold lineS
  split
  · rw [bl_append]
    simp only [List.mem_append]
    rintro (h | h)
    · exact h0 h
    · exact h58 h
  · rw [bl_append, bl_append, bl_append]
    simp only [List.mem_append]
    rintro ((h | h) | (h | h))
    · exact h0 h
    · exact h58 h
    · exact h32 h
    · exact ht h
theorem line_head (f : S35) : ∃ w, bl (lineS f) = bl f.f0 ++ 58 :: w := by
  unfold lineS
  split
  · exact ⟨[], by rw [bl_append]⟩
  · refine ⟨bl ((⟨#[32]⟩ : ByteArray) ++ trimS (crlfS f.f1)), ?_⟩
    rw [bl_append, bl_append]
    simp [bl]

/-- The lines that are written of a field. -/
def fieldLs (f : S35) : List (List UInt8) := foldLs (lineS f).size (lineS f) (f.f0.size + 1)
/-- The parts of its value. -/
def fieldPs (f : S35) : List (List UInt8) :=
  match fieldLs f with
  | [] => []
  | l :: conts => l.drop (f.f0.size + 1) :: conts
theorem fieldL_cat (f : S35) (h : isNameB f.f0 = true) : fieldL f = catL (fieldLs f) := by
  unfold fieldL fieldLs
  rw [if_pos h, foldL_cat]
theorem fieldLs_ok (f : S35) (h : isNameB f.f0 = true) : FieldLs f.f0 (fieldLs f) (fieldPs f) := by
  obtain ⟨w, hw⟩ := line_head f
  have hsz : f.f0.size ≤ 200 := by
    unfold isNameB at h
    simp at h
    exact h.1.2
  obtain ⟨j, conts, e1, e2, e3, e4, e5⟩ := foldLs_spec (lineS f).size (lineS f) (f.f0.size + 1)
  have hlen : (lineS f).size = f.f0.size + 1 + w.length := by rw [← bl_length, hw]; simp; omega
  have hj : f.f0.size + 1 ≤ j := by
    rcases e2 (by omega) with h | h <;> omega
  have hfirst : (bl (lineS f)).take j = bl f.f0 ++ 58 :: w.take (j - (f.f0.size + 1)) := by
    rw [hw, List.take_append, bl_length]
    have e : j - f.f0.size = (j - (f.f0.size + 1)) + 1 := by omega
    rw [e, List.take_succ_cons, List.take_of_length_le (by rw [bl_length]; omega)]
  refine ⟨⟨w.take (j - (f.f0.size + 1)), conts, ?_, ?_, e4⟩, ?_, ?_⟩
  · unfold fieldLs
    rw [e1, hfirst]
  · unfold fieldPs fieldLs
    rw [e1, hfirst]
    simp only
    congr 1
    have : bl f.f0 ++ 58 :: w.take (j - (f.f0.size + 1)) = (bl f.f0 ++ [58]) ++ w.take (j - (f.f0.size + 1)) := by simp
    rw [this]
    have hl : f.f0.size + 1 = (bl f.f0 ++ [58]).length := by simp
    rw [hl, List.drop_left]
  · exact e5 10 (by decide) (line_no h 10 (.inr rfl))
  · exact e5 13 (by decide) (line_no h 13 (.inl rfl))

/-- The fields that are written, with their lines. -/
def writtenF (l : List S35) : List (ByteArray × List (List UInt8) × List (List UInt8)) := (l.filter fun f => isNameB f.f0).map fun f => (f.f0, fieldLs f, fieldPs f)
theorem writeL_cat (l : List S35) : writeL l = catL ((writtenF l).flatMap (·.2.1)) := by
  induction l with
  | nil => rfl
  | cons f l ih =>
    have e1 : writeL (f :: l) = fieldL f ++ writeL l := rfl
    rw [e1, ih]
    unfold writtenF
    by_cases h : isNameB f.f0 = true
    · rw [List.filter_cons_of_pos (p := fun f : S35 => isNameB f.f0) h, fieldL_cat f h]
      simp [catL]
    · rw [List.filter_cons_of_neg (p := fun f : S35 => isNameB f.f0) h]
      have : fieldL f = [] := by unfold fieldL; rw [if_neg h]
      rw [this]
      rfl
theorem writtenF_ok (l : List S35) : ∀ f ∈ writtenF l, FieldLs f.1 f.2.1 f.2.2 ∧ isNameB f.1 = true := by
  intro f hf
  obtain ⟨g, hg, rfl⟩ := List.mem_map.1 hf
  have := (List.mem_filter.1 hg).2
  exact ⟨fieldLs_ok g this, this⟩
theorem writtenF_length (l : List S35) : (writtenF l).length ≤ l.length := by
  unfold writtenF
  rw [List.length_map]
  exact List.length_filter_le _ _
/-- What Parse makes of what Write wrote. -/
theorem parse_write (l : List S35) (hl : l.length ≤ 400) : parseS (mkB (writeL l)) = (parsedF (writtenF l), (writeL l).length) := by
  rw [writeL_cat]
  exact parse_cat _ (writtenF_ok l) (Nat.le_trans (writtenF_length l) hl)
theorem parse_write_rest (l : List S35) (body : List UInt8) (hl : l.length ≤ 400) : parseS (mkB (writeL l ++ 10 :: body)) = (parsedF (writtenF l), (writeL l).length + 1) := by
  rw [writeL_cat]
  exact parse_cat_rest _ body (writtenF_ok l) (Nat.le_trans (writtenF_length l) hl)
end Go.Proofs.YtieompfmhnpnaaaGreat.H
