/- Part 4 of the proof of Ht: contracts and plain laws, joined and shortened by bundle.py of this repo. -/
import Derived.Test.YtieompfmhnpnaaaGreatKHt3
section
namespace Go.Proofs.YtieompfmhnpnaaaGreat.H
open Go.RowKit Go.Proofs.YtieompfmhnpnaaaGreatW.PrintWords Go.Proofs.YtieompfmhnpnaaaGreatW.PrintLast Go.Proofs.YtieompfmhnpnaaaGreatW.PrintMore
set_option linter.unusedVariables false
set_option linter.unusedSimpArgs false
theorem indexByte_cut {l r : List UInt8} {c : UInt8} (h : c ∉ l) : Lib.indexByte (l ++ c :: r) c = l.length := by
  induction l with
  | nil => simp [Lib.indexByte]
  | cons b l ih =>
    have hb : (b == c) = false := by
      rw [beq_eq_false_iff_ne]
      exact fun e => h (by rw [e]; exact List.mem_cons_self)
    have ih := ih (fun hm => h (List.mem_cons_of_mem _ hm))
    rw [List.cons_append, Lib.indexByte, hb, ih]
    have h1 : (((l.length : Nat) : Int) == -1) = false := by
      rw [beq_eq_false_iff_ne]; omega
    rw [h1]
    simp
theorem indexByte_not {l : List UInt8} {c : UInt8} (h : c ∉ l) : Lib.indexByte l c = -1 := by
  induction l with
  | nil => rfl
  | cons b l ih =>
    have hb : (b == c) = false := by
      rw [beq_eq_false_iff_ne]
      exact fun e => h (by rw [e]; exact List.mem_cons_self)
    rw [Lib.indexByte, hb, ih (fun hm => h (List.mem_cons_of_mem _ hm))]
    rfl
theorem cutAt_cut {s : ByteArray} {l r : List UInt8} {c : UInt8} (hs : bl s = l ++ c :: r) (h : c ∉ l) : cutAt s c = (mkB l, mkB r, true) := by
  have hi : Lib.indexByte s.data.toList c = l.length := by
    have : s.data.toList = l ++ c :: r := hs
    rw [this]
    exact indexByte_cut h
  have hl : s.size = l.length + 1 + r.length := by rw [← bl_length, hs]; simp; omega
  unfold cutAt
  rw [hi]
  simp only [Int.toNat_natCast]
  rw [if_pos (by omega)]
  have e1 : s.extract 0 l.length = mkB l := bl_inj (by rw [bl_extract, hs, bl_mkB]; simp)
  have e2 : s.extract (l.length + 1) s.size = mkB r := bl_inj (by
    rw [bl_extract (s := s)]
    rw [hs, List.take_of_length_le (by simp; omega), List.drop_append]
    simp)
  rw [e1, e2]
theorem cutAt_not {s : ByteArray} {c : UInt8} (h : c ∉ bl s) : cutAt s c = (s, ⟨#[]⟩, false) := by
  unfold cutAt
  have : Lib.indexByte s.data.toList c = -1 := indexByte_not h
  rw [this]
  rfl
def catL (ls : List (List UInt8)) : List UInt8 := ls.flatMap fun l => l ++ [10]
def lineXs : Nat → List (List UInt8) → List LineX
  | _, [] => []
  | off, l :: ls => ⟨trimCR (mkB l), off, off + l.length + 1⟩ :: lineXs (off + l.length + 1) ls
theorem trimCR_no {l : List UInt8} (h : (13 : UInt8) ∉ l) : trimCR (mkB l) = mkB l := by
  unfold trimCR
  rw [if_neg]
  rintro ⟨h1, h2⟩
  rw [toList_bl, bl_extract, bl_mkB] at h2
  apply h
  have : (13 : UInt8) ∈ (l.take (mkB l).size).drop ((mkB l).size - 1) := by rw [h2]; simp
  exact List.mem_of_mem_take (List.mem_of_mem_drop this)
end Go.Proofs.YtieompfmhnpnaaaGreat.H
namespace Go.Proofs.YtieompfmhnpnaaaGreat.H
open Go.RowKit Go.Proofs.YtieompfmhnpnaaaGreatW.PrintWords Go.Proofs.YtieompfmhnpnaaaGreatW.PrintLast Go.Proofs.YtieompfmhnpnaaaGreatW.PrintMore
set_option linter.unusedVariables false
set_option linter.unusedSimpArgs false
structure FieldLs (name : ByteArray) (ls : List (List UInt8)) (parts : List (List UInt8)) : Prop where
  first : ∃ v0 conts, ls = (bl name ++ 58 :: v0) :: conts ∧ parts = v0 :: conts ∧ ∀ c ∈ conts, ∃ r, c = 32 :: r
  noLF : ∀ l ∈ ls, (10 : UInt8) ∉ l
  noCR : ∀ l ∈ ls, (13 : UInt8) ∉ l
def partsV (parts : List (List UInt8)) : List ByteArray := parts.foldl (fun vs p => addV vs (mkB p)) []
def endOf (off : Nat) (ls : List (List UInt8)) : Nat := off + (catL ls).length
theorem conts_go : ∀ (conts : List (List UInt8)) (off : Nat) (st : PS), 0 < st.fs.length → (∀ c ∈ conts, ∃ r, c = 32 :: r) → (∀ l ∈ conts, (13 : UInt8) ∉ l) →
    goP st (lineXs off conts) = some ⟨st.fs, conts.foldl (fun vs p => addV vs (mkB p)) st.vs, if conts = [] then st.en else endOf off conts⟩
  | [], off, st, _, _, _ => rfl
  | c :: conts, off, st, hf, hb, hcr => by
    obtain ⟨r, hr⟩ := hb c List.mem_cons_self
    have ht := trimCR_no (hcr c List.mem_cons_self)
    have hstep : stepP st ⟨trimCR (mkB c), off, off + c.length + 1⟩ = (⟨st.fs, addV st.vs (mkB c), off + c.length + 1⟩, true) := by
      unfold stepP
      simp only [ht]
      have hne : ¬ (mkB c).size = 0 := by rw [mkB_size, hr]; simp
      have hb0 : byteAt (mkB c) 0 = 32 := by rw [hr]; rfl
      rw [if_neg hne, if_pos ⟨by rw [hb0]; rfl, hf⟩]
    rw [lineXs, goP, hstep, if_pos rfl]
    have ih := conts_go conts (off + c.length + 1) ⟨st.fs, addV st.vs (mkB c), off + c.length + 1⟩ hf (fun x hx => hb x (List.mem_cons_of_mem _ hx)) (fun x hx => hcr x (List.mem_cons_of_mem _ hx))
    rw [ih]
    congr 2
    have hc : catL (c :: conts) = c ++ 10 :: catL conts := by simp [catL]
    by_cases h : conts = []
    · subst h
      simp [endOf, hc, catL]
      omega
    · simp only [if_neg h, if_neg (show ¬ (c :: conts = []) by simp)]
      unfold endOf
      rw [hc]
      simp
      omega
theorem field_go {name : ByteArray} {ls parts : List (List UInt8)} (h : FieldLs name ls parts) (hn : isNameB name = true) (off : Nat) (st : PS) (hl : st.fs.length < 400) :
    goP st (lineXs off ls) = some ⟨doneF st.fs st.vs ++ [⟨name, ⟨#[]⟩⟩], partsV parts, endOf off ls⟩ := by
  obtain ⟨⟨v0, conts, rfl, rfl, hb⟩, _, hcr⟩ := h
  have ht := trimCR_no (hcr _ List.mem_cons_self)
  have hvis : ∀ c ∈ bl name, visB c = true ∧ c ≠ 58 := by
    unfold isNameB at hn
    simp only [Bool.and_eq_true, List.all_eq_true] at hn
    intro c hc
    have := hn.2 c hc
    simp at this
    exact ⟨this.1, this.2⟩
  have hsz : 1 ≤ name.size := by
    unfold isNameB at hn
    simp at hn
    exact hn.1.1
  have hcut : cutAt (mkB (bl name ++ 58 :: v0)) 58 = (name, mkB v0, true) := by
    have := cutAt_cut (s := mkB (bl name ++ 58 :: v0)) (bl_mkB _) (fun hm => (hvis 58 hm).2 rfl)
    rw [this, mkB_bl]
  obtain ⟨c0, cs, hc0⟩ : ∃ c0 cs, bl name = c0 :: cs := by
    cases hbn : bl name with
    | nil => rw [← bl_length, hbn] at hsz; simp at hsz
    | cons c0 cs => exact ⟨c0, cs, rfl⟩
  have hv0 := (hvis c0 (by rw [hc0]; exact List.mem_cons_self)).1
  have hnb : blankB c0 = false := by
    unfold visB at hv0
    unfold blankB
    simp at hv0
    have n1 : (c0 == 32) = false := by
      rw [beq_eq_false_iff_ne]
      intro e
      rw [e] at hv0
      exact absurd hv0.1 (by decide)
    have n2 : (c0 == 9) = false := by
      rw [beq_eq_false_iff_ne]
      intro e
      rw [e] at hv0
      exact absurd hv0.1 (by decide)
    rw [n1, n2]
    rfl
  have hb0 : byteAt (mkB (bl name ++ 58 :: v0)) 0 = c0 := by
    rw [hc0]
    rfl
  have hstep : stepP st ⟨trimCR (mkB (bl name ++ 58 :: v0)), off, off + (bl name ++ 58 :: v0).length + 1⟩ = (⟨doneF st.fs st.vs ++ [⟨name, ⟨#[]⟩⟩], addV [] (mkB v0), off + (bl name ++ 58 :: v0).length + 1⟩, true) := by
    unfold stepP
    simp only [ht]
    have hne : ¬ (mkB (bl name ++ 58 :: v0)).size = 0 := by rw [mkB_size]; simp
    rw [if_neg hne, if_neg (by rw [hb0, hnb]; rintro ⟨h, _⟩; cases h), hcut]
    simp only
    rw [if_neg (by
      rintro (h | h | h)
      · cases h
      · rw [hn] at h; cases h
      · omega)]
  rw [lineXs, goP, hstep, if_pos rfl]
  rw [conts_go conts _ _ (by simp) hb (fun x hx => hcr x (List.mem_cons_of_mem _ hx))]
  congr 2
  have hc : catL ((bl name ++ 58 :: v0) :: conts) = (bl name ++ 58 :: v0) ++ 10 :: catL conts := by simp [catL]
  by_cases h : conts = []
  · subst h
    simp [endOf, catL]
    omega
  · simp only [if_neg h]
    unfold endOf
    rw [hc]
    simp
    omega
end Go.Proofs.YtieompfmhnpnaaaGreat.H
namespace Go.Proofs.YtieompfmhnpnaaaGreat.H
open Go.RowKit Go.Proofs.YtieompfmhnpnaaaGreatW.PrintWords Go.Proofs.YtieompfmhnpnaaaGreatW.PrintLast Go.Proofs.YtieompfmhnpnaaaGreatW.PrintMore
set_option linter.unusedVariables false
set_option linter.unusedSimpArgs false
end Go.Proofs.YtieompfmhnpnaaaGreat.H
namespace Go.Proofs.YtieompfmhnpnaaaGreat.H
open Go.RowKit Go.Proofs.YtieompfmhnpnaaaGreatW.PrintWords Go.Proofs.YtieompfmhnpnaaaGreatW.PrintLast Go.Proofs.YtieompfmhnpnaaaGreatW.PrintMore
set_option linter.unusedVariables false
set_option linter.unusedSimpArgs false
def crlfB (c : UInt8) : UInt8 := if c = 13 ∨ c = 10 then 32 else c
theorem tab_at256 : ∀ n : Fin 256, (tab2 13 32 10 32).getD n.val 0 = ((crlfB (UInt8.ofNat n.val)).toNat : Int) := by decide +kernel
theorem tab_at (c : UInt8) : tv (tab2 13 32 10 32) c = ((crlfB c).toNat : Int) := by
  have := tab_at256 ⟨c.toNat, c.toNat_lt⟩
  unfold tv
  rw [this]
  simp
theorem bl_crlf (s : ByteArray) : bl (crlfS s) = (bl s).map crlfB := by
  unfold crlfS tabS
  have e : s.data.toList.map (tv (tab2 13 32 10 32)) = byteInts ((bl s).map crlfB) := by
    unfold byteInts
    rw [List.map_map]
    exact List.map_congr_left (fun c _ => tab_at c)
  rw [e, byteInts_back]
theorem name_vis {name : ByteArray} (hn : isNameB name = true) : ∀ c ∈ bl name, visB c = true ∧ c ≠ 58 := by
  unfold isNameB at hn
  simp only [Bool.and_eq_true, List.all_eq_true] at hn
  intro c hc
  have := hn.2 c hc
  simp at this
  exact ⟨this.1, this.2⟩
end Go.Proofs.YtieompfmhnpnaaaGreat.H
end
section
namespace Go.Proofs.YtieompfmhnpnaaaGreat.H
open Go.RowKit Go.Proofs.YtieompfmhnpnaaaGreatW.PrintWords Go.Proofs.YtieompfmhnpnaaaGreatW.PrintLast Go.Proofs.YtieompfmhnpnaaaGreatW.PrintMore
set_option linter.unusedVariables false
set_option linter.unusedSimpArgs false
end Go.Proofs.YtieompfmhnpnaaaGreat.H
namespace Go.Proofs.YtieompfmhnpnaaaGreat.H
open Go.RowKit Go.Proofs.YtieompfmhnpnaaaGreatW.PrintWords Go.Proofs.YtieompfmhnpnaaaGreatW.PrintLast Go.Proofs.YtieompfmhnpnaaaGreatW.PrintMore
set_option linter.unusedVariables false
set_option linter.unusedSimpArgs false
def AtL (s : ByteArray) (i : Nat) (t : List UInt8) : Prop := ∀ j, (h : j < t.length) → i + j < s.size ∧ byteAt s (i + j) = t[j]
end Go.Proofs.YtieompfmhnpnaaaGreat.H
namespace Go.Proofs.YtieompfmhnpnaaaGreat.H
open Go.RowKit Go.Proofs.YtieompfmhnpnaaaGreatW.PrintWords Go.Proofs.YtieompfmhnpnaaaGreatW.PrintLast Go.Proofs.YtieompfmhnpnaaaGreatW.PrintMore
set_option linter.unusedVariables false
set_option linter.unusedSimpArgs false
theorem AtL.left {s : ByteArray} {i : Nat} {t u : List UInt8} (h : AtL s i (t ++ u)) : AtL s i t := fun j hj => by
  have := h j (by rw [List.length_append]; omega)
  rw [List.getElem_append_left hj] at this
  exact this
theorem AtL.right {s : ByteArray} {i : Nat} {t u : List UInt8} (h : AtL s i (t ++ u)) : AtL s (i + t.length) u := fun j hj => by
  have := h (t.length + j) (by rw [List.length_append]; omega)
  rw [List.getElem_append_right (by omega)] at this
  simpa [Nat.add_assoc] using this
theorem AtL.extract {s : ByteArray} {i : Nat} {t : List UInt8} (h : AtL s i t) : s.extract i (i + t.length) = mkB t := by
  apply bl_inj
  rw [bl_extract, bl_mkB]
  apply List.ext_getElem?
  intro j
  by_cases hj : j < t.length
  · have h1 := h j hj
    rw [List.getElem?_drop, List.getElem?_take, if_pos (by omega), byteAt_list s _ h1.1, h1.2, List.getElem?_eq_getElem hj]
  · rw [List.getElem?_eq_none (by rw [List.length_drop, List.length_take]; omega), List.getElem?_eq_none (by rw [bl_mkB]; omega)]
end Go.Proofs.YtieompfmhnpnaaaGreat.H
namespace Go.Proofs.YtieompfmhnpnaaaGreat.H
open Go.RowKit Go.Proofs.YtieompfmhnpnaaaGreatW.PrintWords Go.Proofs.YtieompfmhnpnaaaGreatW.PrintLast Go.Proofs.YtieompfmhnpnaaaGreatW.PrintMore
set_option linter.unusedVariables false
set_option linter.unusedSimpArgs false
end Go.Proofs.YtieompfmhnpnaaaGreat.H
end
section
namespace Go.Proofs.YtieompfmhnpnaaaGreat.H
open Go.RowKit Go.Proofs.YtieompfmhnpnaaaGreatW.PrintWords Go.Proofs.YtieompfmhnpnaaaGreatW.PrintLast Go.Proofs.YtieompfmhnpnaaaGreatW.PrintMore
set_option linter.unusedVariables false
set_option linter.unusedSimpArgs false
theorem lit_C35 (W : World) (l : List S35) (hl : l.length ≤ 1000) : Kd.C k35 (W.alloc (.cells (fieldVals l).toArray 35)) (some ⟨W.heap.size, 0, none⟩) l.length l := by
  refine ⟨rfl, by omega, fun _ => ⟨_, rfl, fun j p hj => ⟨[.string p.f0, .string p.f1], rfl, k35_mk _ p, fun i u hu => ?_⟩⟩⟩
  have key : ∀ (l : List S35) (j : Nat), l[j]? = some p → (fieldVals l)[j * 2 + i]? = some u := by
    intro l
    induction l with
    | nil => intro j h; simp at h
    | cons x l ih =>
      intro j hj
      match j, hj with
      | 0, hj =>
        obtain rfl : x = p := by simpa using hj
        rw [Nat.zero_mul, Nat.zero_add]
        match i, hu with
        | 0, hu => exact hu
        | 1, hu => exact hu
      | j + 1, hj =>
        have := ih j (by simpa using hj)
        have e1 : fieldVals (x :: l) = .string x.f0 :: .string x.f1 :: fieldVals l := rfl
        rw [e1, show (j + 1) * 2 + i = j * 2 + i + 1 + 1 by omega]
        exact this
  rw [show k35.sz = 2 from rfl, add_plain, World.cell?_alloc_new]
  simpa using key l j hj
theorem lit_C25 (W : World) (l : List S25) (hl : l.length ≤ 1000) : Kd.C k25 (W.alloc (.cells (paramVals l).toArray 25)) (some ⟨W.heap.size, 0, none⟩) l.length l := by
  refine ⟨rfl, by omega, fun _ => ⟨_, rfl, fun j p hj => ⟨[.string p.f0, .string p.f1], rfl, k25_mk _ p, fun i u hu => ?_⟩⟩⟩
  have key : ∀ (l : List S25) (j : Nat), l[j]? = some p → (paramVals l)[j * 2 + i]? = some u := by
    intro l
    induction l with
    | nil => intro j h; simp at h
    | cons x l ih =>
      intro j hj
      match j, hj with
      | 0, hj =>
        obtain rfl : x = p := by simpa using hj
        rw [Nat.zero_mul, Nat.zero_add]
        match i, hu with
        | 0, hu => exact hu
        | 1, hu => exact hu
      | j + 1, hj =>
        have := ih j (by simpa using hj)
        have e1 : paramVals (x :: l) = .string x.f0 :: .string x.f1 :: paramVals l := rfl
        rw [e1, show (j + 1) * 2 + i = j * 2 + i + 1 + 1 by omega]
        exact this
  rw [show k25.sz = 2 from rfl, add_plain, World.cell?_alloc_new]
  simpa using key l j hj
set_option maxHeartbeats 4000000 in
set_option maxRecDepth 100000 in
theorem small_calls (w : World) : Calls Tryz.prog 10 #[] w fun e w' => e = .returned (.bool true) ∧ Below w.heap.size w w' := by
  have p1 : header_Parse.f (⟨#[65, 58, 32, 49, 10, 32, 32, 50, 10, 98, 58, 10, 10, 120]⟩ : ByteArray) = some ([⟨(⟨#[65]⟩ : ByteArray), (⟨#[49, 32, 50]⟩ : ByteArray)⟩, ⟨(⟨#[98]⟩ : ByteArray), (⟨#[]⟩ : ByteArray)⟩], 13) := by kernel_rfl
  have p2 : header_Parse.f (⟨#[65, 58, 32, 49, 10, 110, 111, 32, 102, 105, 101, 108, 100, 10]⟩ : ByteArray) = some ([⟨(⟨#[65]⟩ : ByteArray), (⟨#[49]⟩ : ByteArray)⟩], 5) := by kernel_rfl
  have p3 : header_Params.f (⟨#[116, 101, 120, 116, 47, 112, 108, 97, 105, 110, 59, 32, 67, 104, 97, 114, 115, 101, 116, 61, 117, 116, 102, 45, 56, 59, 32, 120, 59, 32, 110, 97, 109, 101, 61, 34, 97, 32, 92, 34, 98, 34]⟩ : ByteArray) = some ((⟨#[116, 101, 120, 116, 47, 112, 108, 97, 105, 110]⟩ : ByteArray), [⟨(⟨#[99, 104, 97, 114, 115, 101, 116]⟩ : ByteArray), (⟨#[117, 116, 102, 45, 56]⟩ : ByteArray)⟩, ⟨(⟨#[110, 97, 109, 101]⟩ : ByteArray), (⟨#[97, 32, 34, 98]⟩ : ByteArray)⟩]) := by kernel_rfl
  have p4 : header_Quote.f (⟨#[116, 101, 120, 116, 47, 112, 108, 97, 105, 110]⟩ : ByteArray) [⟨(⟨#[99, 104, 97, 114, 115, 101, 116]⟩ : ByteArray), (⟨#[117, 116, 102, 45, 56]⟩ : ByteArray)⟩, ⟨(⟨#[110, 97, 109, 101]⟩ : ByteArray), (⟨#[97, 32, 98]⟩ : ByteArray)⟩] = some (⟨#[116, 101, 120, 116, 47, 112, 108, 97, 105, 110, 59, 32, 99, 104, 97, 114, 115, 101, 116, 61, 117, 116, 102, 45, 56, 59, 32, 110, 97, 109, 101, 61, 34, 97, 32, 98, 34]⟩ : ByteArray) := by kernel_rfl
  have p5 : header_Write.f [⟨(⟨#[65]⟩ : ByteArray), (⟨#[32, 120, 10, 121, 32]⟩ : ByteArray)⟩, ⟨(⟨#[98, 32, 99]⟩ : ByteArray), (⟨#[]⟩ : ByteArray)⟩] = some (⟨#[65, 58, 32, 120, 32, 121, 10]⟩ : ByteArray) := by kernel_rfl
  have p6 : missiveref09_Same.f 10 [⟨(⟨#[65]⟩ : ByteArray), (⟨#[49, 32, 50]⟩ : ByteArray)⟩, ⟨(⟨#[98]⟩ : ByteArray), (⟨#[]⟩ : ByteArray)⟩] [⟨(⟨#[65]⟩ : ByteArray), (⟨#[49, 32, 50]⟩ : ByteArray)⟩, ⟨(⟨#[98]⟩ : ByteArray), (⟨#[]⟩ : ByteArray)⟩] = some true := by kernel_rfl
  have p7 : missiveref09_Same.f 10 [⟨(⟨#[65]⟩ : ByteArray), (⟨#[49]⟩ : ByteArray)⟩] [⟨(⟨#[65]⟩ : ByteArray), (⟨#[49]⟩ : ByteArray)⟩] = some true := by kernel_rfl
  have p8 : missiveref09_SameParams.f 10 [⟨(⟨#[99, 104, 97, 114, 115, 101, 116]⟩ : ByteArray), (⟨#[117, 116, 102, 45, 56]⟩ : ByteArray)⟩, ⟨(⟨#[110, 97, 109, 101]⟩ : ByteArray), (⟨#[97, 32, 34, 98]⟩ : ByteArray)⟩] [⟨(⟨#[99, 104, 97, 114, 115, 101, 116]⟩ : ByteArray), (⟨#[117, 116, 102, 45, 56]⟩ : ByteArray)⟩, ⟨(⟨#[110, 97, 109, 101]⟩ : ByteArray), (⟨#[97, 32, 34, 98]⟩ : ByteArray)⟩] = some true := by kernel_rfl
  have P1 := Aside0.mk p1
  have P2 := Aside0.mk p2
  have P3 := Aside0.mk p3
  have P4 := Aside0.mk p4
  have P5 := Aside0.mk p5
  have P6 := Aside0.mk p6
  have P7 := Aside0.mk p7
  have P8 := Aside0.mk p8
  clear p1 p2 p3 p4 p5 p6 p7 p8
  go_enter Tryz.func10, Tryz.ntmps10
  go_wp2_with fail
  refine (header_Parse.calls _ _ _ _ P1.out).mono ?_
  rintro e w1 ⟨v1, rfl, ho1, hb1⟩
  have HO1 := Aside0.mk ho1
  have HB1 := Aside0.mk hb1
  clear ho1 hb1
  go_wp2_with fail
  refine (header_Parse.calls _ _ _ _ P2.out).mono ?_
  rintro e w2 ⟨v2, rfl, ho2, hb2⟩
  have HO2 := Aside0.mk ho2
  have HB2 := Aside0.mk hb2
  clear ho2 hb2
  go_wp2_with fail
  refine (header_Params.calls _ _ _ _ P3.out).mono ?_
  rintro e w3 ⟨v3, rfl, ho3, hb3⟩
  have HO3 := Aside0.mk ho3
  have HB3 := Aside0.mk hb3
  clear ho3 hb3
  go_wp2_with fail
  refine (header_Quote.calls _ _ _ _ _ _ (lit_C25 w3 _ (by decide)) (Nat.le_refl _) P4.out).mono ?_
  rintro e w4 ⟨rfl, hb4⟩
  have HB4 := Aside0.mk hb4
  clear hb4
  obtain ⟨A1, c1, rfl⟩ := Kd.R_slice HO1.out
  obtain ⟨A2, c2, rfl⟩ := Kd.R_slice HO2.out
  obtain ⟨A3, c3, rfl⟩ := Kd.R_slice HO3.out
  go_wp2_with fail
  have b24 : Below w2.heap.size w2 w4 := HB3.out.trans (((Below.refl w2.heap.size w3).alloc HB3.out.size _).trans (HB4.out.mono (by rw [World.size_alloc]; have := HB3.out.size; omega)))
  have b14 : Below w1.heap.size w1 w4 := HB2.out.trans (b24.mono HB2.out.size)
  have b34 : Below w3.heap.size w3 w4 := ((Below.refl w3.heap.size w3).alloc (Nat.le_refl _) _).trans (HB4.out.mono (by rw [World.size_alloc]; omega))
  have r1 := Kd.R_reads' HO1.out
  have r2 := Kd.R_reads' HO2.out
  have r3 := Kd.R_reads' HO3.out
  have R1 := Aside0.mk r1
  have R2 := Aside0.mk r2
  have R3 := Aside0.mk r3
  clear r1 r2 r3
  refine (missiveref09_Same.calls 10 _ _ _ _ _ _ _ _ (Kd.C_below (Kd.C_below R1.out.2.2 b14) ((Below.refl _ _).alloc (Nat.le_refl _) _)) R1.out.2.1 (lit_C35 w4 _ (by decide)) (Nat.le_refl _) P6.out).mono ?_
  rintro e w5 ⟨rfl, ⟨n5, rfl⟩⟩
  go_wp2_with fail
  have b45 : Below w4.heap.size w4 ((w4.alloc (Obj.cells (fieldVals [(⟨(⟨#[65]⟩ : ByteArray), (⟨#[49, 32, 50]⟩ : ByteArray)⟩ : S35), (⟨(⟨#[98]⟩ : ByteArray), (⟨#[]⟩ : ByteArray)⟩ : S35)]).toArray 35)).drewN n5) := pw_below_drewN ((Below.refl _ _).alloc (Nat.le_refl _) _) n5
  have hs5 : ((w4.alloc (Obj.cells (fieldVals [(⟨(⟨#[65]⟩ : ByteArray), (⟨#[49, 32, 50]⟩ : ByteArray)⟩ : S35), (⟨(⟨#[98]⟩ : ByteArray), (⟨#[]⟩ : ByteArray)⟩ : S35)]).toArray 35)).drewN n5).heap.size = w4.heap.size + 1 := World.size_alloc _ _
  rw [← hs5]
  generalize ((w4.alloc (Obj.cells (fieldVals [(⟨(⟨#[65]⟩ : ByteArray), (⟨#[49, 32, 50]⟩ : ByteArray)⟩ : S35), (⟨(⟨#[98]⟩ : ByteArray), (⟨#[]⟩ : ByteArray)⟩ : S35)]).toArray 35)).drewN n5) = W5 at b45 hs5 ⊢
  clear hs5
  have b25 : Below w2.heap.size w2 W5 := b24.trans (b45.mono b24.size)
  refine (missiveref09_Same.calls 10 _ _ _ _ _ _ _ _ (Kd.C_below (Kd.C_below R2.out.2.2 b25) ((Below.refl _ _).alloc (Nat.le_refl _) _)) R2.out.2.1 (lit_C35 W5 [(⟨(⟨#[65]⟩ : ByteArray), (⟨#[49]⟩ : ByteArray)⟩ : S35)] (by decide)) (Nat.le_refl _) P7.out).mono ?_
  rintro e w6 ⟨rfl, ⟨n6, rfl⟩⟩
  go_wp2_with fail
  have b56 : Below W5.heap.size W5 ((W5.alloc (Obj.cells (fieldVals [(⟨(⟨#[65]⟩ : ByteArray), (⟨#[49]⟩ : ByteArray)⟩ : S35)]).toArray 35)).drewN n6) := pw_below_drewN ((Below.refl _ _).alloc (Nat.le_refl _) _) n6
  have hs6 : ((W5.alloc (Obj.cells (fieldVals [(⟨(⟨#[65]⟩ : ByteArray), (⟨#[49]⟩ : ByteArray)⟩ : S35)]).toArray 35)).drewN n6).heap.size = W5.heap.size + 1 := World.size_alloc _ _
  rw [← hs6]
  generalize ((W5.alloc (Obj.cells (fieldVals [(⟨(⟨#[65]⟩ : ByteArray), (⟨#[49]⟩ : ByteArray)⟩ : S35)]).toArray 35)).drewN n6) = W6 at b56 hs6 ⊢
  clear hs6
  have b46 : Below w4.heap.size w4 W6 := b45.trans (b56.mono b45.size)
  have b36 : Below w3.heap.size w3 W6 := b34.trans (b46.mono b34.size)
  refine (missiveref09_SameParams.calls 10 _ _ _ _ _ _ _ _ (Kd.C_below (Kd.C_below R3.out.2.2 b36) ((Below.refl _ _).alloc (Nat.le_refl _) _)) R3.out.2.1 (lit_C25 W6 [(⟨(⟨#[99, 104, 97, 114, 115, 101, 116]⟩ : ByteArray), (⟨#[117, 116, 102, 45, 56]⟩ : ByteArray)⟩ : S25), (⟨(⟨#[110, 97, 109, 101]⟩ : ByteArray), (⟨#[97, 32, 34, 98]⟩ : ByteArray)⟩ : S25)] (by decide)) (Nat.le_refl _) P8.out).mono ?_
  rintro e w7 ⟨rfl, ⟨n7, rfl⟩⟩
  go_wp2_with fail
  have b67 : Below W6.heap.size W6 ((W6.alloc (Obj.cells (paramVals [(⟨(⟨#[99, 104, 97, 114, 115, 101, 116]⟩ : ByteArray), (⟨#[117, 116, 102, 45, 56]⟩ : ByteArray)⟩ : S25), (⟨(⟨#[110, 97, 109, 101]⟩ : ByteArray), (⟨#[97, 32, 34, 98]⟩ : ByteArray)⟩ : S25)]).toArray 25)).drewN n7) := pw_below_drewN ((Below.refl _ _).alloc (Nat.le_refl _) _) n7
  have hs7 : ((W6.alloc (Obj.cells (paramVals [(⟨(⟨#[99, 104, 97, 114, 115, 101, 116]⟩ : ByteArray), (⟨#[117, 116, 102, 45, 56]⟩ : ByteArray)⟩ : S25), (⟨(⟨#[110, 97, 109, 101]⟩ : ByteArray), (⟨#[97, 32, 34, 98]⟩ : ByteArray)⟩ : S25)]).toArray 25)).drewN n7).heap.size = W6.heap.size + 1 := World.size_alloc _ _
  rw [← hs7]
  generalize ((W6.alloc (Obj.cells (paramVals [(⟨(⟨#[99, 104, 97, 114, 115, 101, 116]⟩ : ByteArray), (⟨#[117, 116, 102, 45, 56]⟩ : ByteArray)⟩ : S25), (⟨(⟨#[110, 97, 109, 101]⟩ : ByteArray), (⟨#[97, 32, 34, 98]⟩ : ByteArray)⟩ : S25)]).toArray 25)).drewN n7) = W7 at b67 hs7 ⊢
  clear hs7
  refine (header_Write.calls _ _ [(⟨(⟨#[65]⟩ : ByteArray), (⟨#[32, 120, 10, 121, 32]⟩ : ByteArray)⟩ : S35), (⟨(⟨#[98, 32, 99]⟩ : ByteArray), (⟨#[]⟩ : ByteArray)⟩ : S35)] _ _ (lit_C35 W7 [(⟨(⟨#[65]⟩ : ByteArray), (⟨#[32, 120, 10, 121, 32]⟩ : ByteArray)⟩ : S35), (⟨(⟨#[98, 32, 99]⟩ : ByteArray), (⟨#[]⟩ : ByteArray)⟩ : S35)] (by decide)) (Nat.le_refl _) P5.out).mono ?_
  rintro e w8 ⟨rfl, hb8⟩
  have HB8 := Aside0.mk hb8
  clear hb8
  go_wp2_with fail
  go_ret
  refine ⟨rfl, ?_⟩
  have s1 := HB1.out
  have s2 := HB2.out
  have s3 := b34
  have e1 : Below w.heap.size w w4 := s1.trans (((s2.mono s1.size).trans (HB3.out.mono (Nat.le_trans s1.size s2.size))).trans (b34.mono (Nat.le_trans (Nat.le_trans s1.size s2.size) HB3.out.size)))
  have e2 : Below w.heap.size w W7 := e1.trans ((b46.mono e1.size).trans (b67.mono (Nat.le_trans e1.size b46.size)))
  exact (e2.alloc e2.size _).trans (HB8.out.mono (by rw [World.size_alloc]; have := e2.size; omega))
def missivelaw09_small.f (k : Nat) : Option Bool := some true
theorem missivelaw09_small.mono (k : Nat) : LeO (missivelaw09_small.f k) (missivelaw09_small.f (k + 1)) := LeO.refl _
theorem missivelaw09_small.calls (k : Nat) (r : Bool) (w : World) (h : missivelaw09_small.f k = some r) :
    Calls Tryz.prog 10 #[] w fun e w' => e = .returned (.bool r) ∧ Below w.heap.size w w' := by
  obtain rfl := Option.some.inj h
  exact small_calls w
theorem small_ev : Ev (fun k => missivelaw09_small.f k) true := Ev.now true
end Go.Proofs.YtieompfmhnpnaaaGreat.H
end
section
namespace Go.Proofs.YtieompfmhnpnaaaGreat.H
open Go.RowKit Go.Proofs.YtieompfmhnpnaaaGreatW.PrintWords Go.Proofs.YtieompfmhnpnaaaGreatW.PrintLast Go.Proofs.YtieompfmhnpnaaaGreatW.PrintMore
attribute [local go_sem] max2_int min2_int max_two min_two max_three min_three max_four min_four
set_option linter.unusedVariables false
set_option linter.unusedSimpArgs false
mutual
def missivelaw09_HeaderParams.j0 : Nat → ByteArray → ByteArray → List (S25) → Bool → Bool → Option (Bool)
  | 0, _, _, _, _, _ => none
  | k + 1, x0, x1, x2, x7, x28 => if x28 = true then (some x7) else (missivelaw09_HeaderParams.l0 k x0 x1 x2 x7 0)
def missivelaw09_HeaderParams.l0 : Nat → ByteArray → ByteArray → List (S25) → Bool → Int → Option (Bool)
  | 0, _, _, _, _, _ => none
  | k + 1, x0, x1, x2, x7, x8 => if x8 < (x2.length : Int) then (if 0 ≤ x8 then (if (((rd_T25 x2 x8).f0).size : Int) > 300 then (some x7) else (if (((rd_T25 x2 x8).f1).size : Int) > 300 then (some x7) else (missivelaw09_HeaderParams.l0 k x0 x1 x2 x7 (wrap64 (x8 + 1))))) else (none)) else ((header_Params.f x0).bind fun bt189 => ((missiveref09_Params.f k x0).bind fun bt193 => (missivelaw09_HeaderParams.l1 k x1 x2 x7 bt189.1 bt189.2 bt193.1 bt193.2 0)))
def missivelaw09_HeaderParams.l1 : Nat → ByteArray → List (S25) → Bool → ByteArray → List (S25) → ByteArray → List (S25) → Int → Option (Bool)
  | 0, _, _, _, _, _, _, _, _ => none
  | k + 1, x1, x2, x7, x9, x10, x11, x12, x13 => if x13 < (x10.length : Int) then (if 0 ≤ x13 then ((missiveref09_Token.f k ((rd_T25 x10 x13).f0)).bind fun t201 => (if t201 = true then ((text_Lower.f ((rd_T25 x10 x13).f0)).bind fun t203 => (missivelaw09_HeaderParams.j3 k x1 x2 x7 x9 x10 x11 x12 x13 (t203.toList != ((rd_T25 x10 x13).f0).toList))) else (missivelaw09_HeaderParams.j3 k x1 x2 x7 x9 x10 x11 x12 x13 true))) else (none)) else (if x7 = true then (if x9.toList = x11.toList then ((missiveref09_SameParams.f k x10 x12).bind fun t197 => (if t197 = true then ((header_Quote.f x1 x2).bind fun t198 => ((missiveref09_Quote.f k x1 x2).bind fun t199 => (some (t198.toList == t199.toList)))) else (some false))) else (some false)) else (some false))
def missivelaw09_HeaderParams.j3 : Nat → ByteArray → List (S25) → Bool → ByteArray → List (S25) → ByteArray → List (S25) → Int → Bool → Option (Bool)
  | 0, _, _, _, _, _, _, _, _, _ => none
  | k + 1, x1, x2, x7, x9, x10, x11, x12, x13, x89 => if x89 = true then (some false) else (missivelaw09_HeaderParams.l2 k x1 x2 x7 x9 x10 x11 x12 x13 0)
def missivelaw09_HeaderParams.l2 : Nat → ByteArray → List (S25) → Bool → ByteArray → List (S25) → ByteArray → List (S25) → Int → Int → Option (Bool)
  | 0, _, _, _, _, _, _, _, _, _ => none
  | k + 1, x1, x2, x7, x9, x10, x11, x12, x13, x14 => if x14 < x13 then (if 0 ≤ x14 then (if x14 < (x10.length : Int) then (if 0 ≤ x13 then (if x13 < (x10.length : Int) then (if ((rd_T25 x10 x14).f0).toList = ((rd_T25 x10 x13).f0).toList then (some false) else (missivelaw09_HeaderParams.l2 k x1 x2 x7 x9 x10 x11 x12 x13 (wrap64 (x14 + 1)))) else (none)) else (none)) else (none)) else (none)) else (missivelaw09_HeaderParams.l1 k x1 x2 x7 x9 x10 x11 x12 (wrap64 (x13 + 1)))
end
def missivelaw09_HeaderParams.f (k : Nat) (a0 : ByteArray) (a1 : ByteArray) (l2 : List (S25)) : Option (Bool) := (missivelaw09_small.f k).bind fun t186 => (if (a0.size : Int) > 3000 then (missivelaw09_HeaderParams.j0 k a0 a1 l2 t186 true) else (if (a1.size : Int) > 300 then (missivelaw09_HeaderParams.j0 k a0 a1 l2 t186 true) else (missivelaw09_HeaderParams.j0 k a0 a1 l2 t186 (decide ((l2.length : Int) > 40)))))
theorem missivelaw09_HeaderParams.mono_l : ∀ k, (∀ y0 y1 y2 y3 y4, LeO (missivelaw09_HeaderParams.j0 k y0 y1 y2 y3 y4) (missivelaw09_HeaderParams.j0 (k + 1) y0 y1 y2 y3 y4)) ∧ (∀ y0 y1 y2 y3 y4, LeO (missivelaw09_HeaderParams.l0 k y0 y1 y2 y3 y4) (missivelaw09_HeaderParams.l0 (k + 1) y0 y1 y2 y3 y4)) ∧ (∀ y0 y1 y2 y3 y4 y5 y6 y7, LeO (missivelaw09_HeaderParams.l1 k y0 y1 y2 y3 y4 y5 y6 y7) (missivelaw09_HeaderParams.l1 (k + 1) y0 y1 y2 y3 y4 y5 y6 y7)) ∧ (∀ y0 y1 y2 y3 y4 y5 y6 y7 y8, LeO (missivelaw09_HeaderParams.j3 k y0 y1 y2 y3 y4 y5 y6 y7 y8) (missivelaw09_HeaderParams.j3 (k + 1) y0 y1 y2 y3 y4 y5 y6 y7 y8)) ∧ (∀ y0 y1 y2 y3 y4 y5 y6 y7 y8, LeO (missivelaw09_HeaderParams.l2 k y0 y1 y2 y3 y4 y5 y6 y7 y8) (missivelaw09_HeaderParams.l2 (k + 1) y0 y1 y2 y3 y4 y5 y6 y7 y8))
  | 0 => ⟨fun _ _ _ _ _ r h => by simp [missivelaw09_HeaderParams.j0] at h, fun _ _ _ _ _ r h => by simp [missivelaw09_HeaderParams.l0] at h, fun _ _ _ _ _ _ _ _ r h => by simp [missivelaw09_HeaderParams.l1] at h, fun _ _ _ _ _ _ _ _ _ r h => by simp [missivelaw09_HeaderParams.j3] at h, fun _ _ _ _ _ _ _ _ _ r h => by simp [missivelaw09_HeaderParams.l2] at h⟩
  | k + 1 => by
    obtain ⟨ih0, ih1, ih2, ih3, ih4⟩ := missivelaw09_HeaderParams.mono_l k
    refine ⟨?_, ?_, ?_, ?_, ?_⟩
    · intro y0 y1 y2 y3 y4
      unfold missivelaw09_HeaderParams.j0
      repeat' first
      | (with_reducible exact ih0 _ _ _ _ _)
      | (with_reducible exact ih1 _ _ _ _ _)
      | (with_reducible exact ih2 _ _ _ _ _ _ _ _)
      | (with_reducible exact ih3 _ _ _ _ _ _ _ _ _)
      | (with_reducible exact ih4 _ _ _ _ _ _ _ _ _)
      | (with_reducible exact missivelaw09_small.mono _)
      | (with_reducible exact missiveref09_Params.mono _ _)
      | (with_reducible exact missiveref09_Quote.mono _ _ _)
      | (with_reducible exact missiveref09_SameParams.mono _ _ _)
      | (with_reducible exact missiveref09_Token.mono _ _)
      | (with_reducible exact LeO.refl _)
      | (with_reducible exact LeO.none _)
      | (with_reducible refine LeO.ite ?_ ?_)
      | (with_reducible refine LeO.bind ?_ (fun _ => ?_))
      | exact ih0 _ _ _ _ _
      | exact ih1 _ _ _ _ _
      | exact ih2 _ _ _ _ _ _ _ _
      | exact ih3 _ _ _ _ _ _ _ _ _
      | exact ih4 _ _ _ _ _ _ _ _ _
      | exact missivelaw09_small.mono _
      | exact missiveref09_Params.mono _ _
      | exact missiveref09_Quote.mono _ _ _
      | exact missiveref09_SameParams.mono _ _ _
      | exact missiveref09_Token.mono _ _
      | exact LeO.none _
      | refine LeO.ite ?_ ?_
      | refine LeO.bind ?_ (fun _ => ?_)
    · intro y0 y1 y2 y3 y4
      unfold missivelaw09_HeaderParams.l0
      repeat' first
      | (with_reducible exact ih0 _ _ _ _ _)
      | (with_reducible exact ih1 _ _ _ _ _)
      | (with_reducible exact ih2 _ _ _ _ _ _ _ _)
      | (with_reducible exact ih3 _ _ _ _ _ _ _ _ _)
      | (with_reducible exact ih4 _ _ _ _ _ _ _ _ _)
      | (with_reducible exact missivelaw09_small.mono _)
      | (with_reducible exact missiveref09_Params.mono _ _)
      | (with_reducible exact missiveref09_Quote.mono _ _ _)
      | (with_reducible exact missiveref09_SameParams.mono _ _ _)
      | (with_reducible exact missiveref09_Token.mono _ _)
      | (with_reducible exact LeO.refl _)
      | (with_reducible exact LeO.none _)
      | (with_reducible refine LeO.ite ?_ ?_)
      | (with_reducible refine LeO.bind ?_ (fun _ => ?_))
      | exact ih0 _ _ _ _ _
      | exact ih1 _ _ _ _ _
      | exact ih2 _ _ _ _ _ _ _ _
      | exact ih3 _ _ _ _ _ _ _ _ _
      | exact ih4 _ _ _ _ _ _ _ _ _
      | exact missivelaw09_small.mono _
      | exact missiveref09_Params.mono _ _
      | exact missiveref09_Quote.mono _ _ _
      | exact missiveref09_SameParams.mono _ _ _
      | exact missiveref09_Token.mono _ _
      | exact LeO.none _
      | refine LeO.ite ?_ ?_
      | refine LeO.bind ?_ (fun _ => ?_)
    · intro y0 y1 y2 y3 y4 y5 y6 y7
      unfold missivelaw09_HeaderParams.l1
      repeat' first
      | (with_reducible exact ih0 _ _ _ _ _)
      | (with_reducible exact ih1 _ _ _ _ _)
      | (with_reducible exact ih2 _ _ _ _ _ _ _ _)
      | (with_reducible exact ih3 _ _ _ _ _ _ _ _ _)
      | (with_reducible exact ih4 _ _ _ _ _ _ _ _ _)
      | (with_reducible exact missivelaw09_small.mono _)
      | (with_reducible exact missiveref09_Params.mono _ _)
      | (with_reducible exact missiveref09_Quote.mono _ _ _)
      | (with_reducible exact missiveref09_SameParams.mono _ _ _)
      | (with_reducible exact missiveref09_Token.mono _ _)
      | (with_reducible exact LeO.refl _)
      | (with_reducible exact LeO.none _)
      | (with_reducible refine LeO.ite ?_ ?_)
      | (with_reducible refine LeO.bind ?_ (fun _ => ?_))
      | exact ih0 _ _ _ _ _
      | exact ih1 _ _ _ _ _
      | exact ih2 _ _ _ _ _ _ _ _
      | exact ih3 _ _ _ _ _ _ _ _ _
      | exact ih4 _ _ _ _ _ _ _ _ _
      | exact missivelaw09_small.mono _
      | exact missiveref09_Params.mono _ _
      | exact missiveref09_Quote.mono _ _ _
      | exact missiveref09_SameParams.mono _ _ _
      | exact missiveref09_Token.mono _ _
      | exact LeO.none _
      | refine LeO.ite ?_ ?_
      | refine LeO.bind ?_ (fun _ => ?_)
    · intro y0 y1 y2 y3 y4 y5 y6 y7 y8
      unfold missivelaw09_HeaderParams.j3
      repeat' first
      | (with_reducible exact ih0 _ _ _ _ _)
      | (with_reducible exact ih1 _ _ _ _ _)
      | (with_reducible exact ih2 _ _ _ _ _ _ _ _)
      | (with_reducible exact ih3 _ _ _ _ _ _ _ _ _)
      | (with_reducible exact ih4 _ _ _ _ _ _ _ _ _)
      | (with_reducible exact missivelaw09_small.mono _)
      | (with_reducible exact missiveref09_Params.mono _ _)
      | (with_reducible exact missiveref09_Quote.mono _ _ _)
      | (with_reducible exact missiveref09_SameParams.mono _ _ _)
      | (with_reducible exact missiveref09_Token.mono _ _)
      | (with_reducible exact LeO.refl _)
      | (with_reducible exact LeO.none _)
      | (with_reducible refine LeO.ite ?_ ?_)
      | (with_reducible refine LeO.bind ?_ (fun _ => ?_))
      | exact ih0 _ _ _ _ _
      | exact ih1 _ _ _ _ _
      | exact ih2 _ _ _ _ _ _ _ _
      | exact ih3 _ _ _ _ _ _ _ _ _
      | exact ih4 _ _ _ _ _ _ _ _ _
      | exact missivelaw09_small.mono _
      | exact missiveref09_Params.mono _ _
      | exact missiveref09_Quote.mono _ _ _
      | exact missiveref09_SameParams.mono _ _ _
      | exact missiveref09_Token.mono _ _
      | exact LeO.none _
      | refine LeO.ite ?_ ?_
      | refine LeO.bind ?_ (fun _ => ?_)
    · intro y0 y1 y2 y3 y4 y5 y6 y7 y8
      unfold missivelaw09_HeaderParams.l2
      repeat' first
      | (with_reducible exact ih0 _ _ _ _ _)
      | (with_reducible exact ih1 _ _ _ _ _)
      | (with_reducible exact ih2 _ _ _ _ _ _ _ _)
      | (with_reducible exact ih3 _ _ _ _ _ _ _ _ _)
      | (with_reducible exact ih4 _ _ _ _ _ _ _ _ _)
      | (with_reducible exact missivelaw09_small.mono _)
      | (with_reducible exact missiveref09_Params.mono _ _)
      | (with_reducible exact missiveref09_Quote.mono _ _ _)
      | (with_reducible exact missiveref09_SameParams.mono _ _ _)
      | (with_reducible exact missiveref09_Token.mono _ _)
      | (with_reducible exact LeO.refl _)
      | (with_reducible exact LeO.none _)
      | (with_reducible refine LeO.ite ?_ ?_)
      | (with_reducible refine LeO.bind ?_ (fun _ => ?_))
      | exact ih0 _ _ _ _ _
      | exact ih1 _ _ _ _ _
      | exact ih2 _ _ _ _ _ _ _ _
      | exact ih3 _ _ _ _ _ _ _ _ _
      | exact ih4 _ _ _ _ _ _ _ _ _
      | exact missivelaw09_small.mono _
      | exact missiveref09_Params.mono _ _
      | exact missiveref09_Quote.mono _ _ _
      | exact missiveref09_SameParams.mono _ _ _
      | exact missiveref09_Token.mono _ _
      | exact LeO.none _
      | refine LeO.ite ?_ ?_
      | refine LeO.bind ?_ (fun _ => ?_)
theorem missivelaw09_HeaderParams.mono : ∀ a0 a1 a2 k, LeO (missivelaw09_HeaderParams.f k a0 a1 a2) (missivelaw09_HeaderParams.f (k + 1) a0 a1 a2) := by
  intro a0 a1 a2 k
  obtain ⟨ih0, ih1, ih2, ih3, ih4⟩ := missivelaw09_HeaderParams.mono_l k
  unfold missivelaw09_HeaderParams.f
  repeat' first
      | (with_reducible exact ih0 _ _ _ _ _)
      | (with_reducible exact ih1 _ _ _ _ _)
      | (with_reducible exact ih2 _ _ _ _ _ _ _ _)
      | (with_reducible exact ih3 _ _ _ _ _ _ _ _ _)
      | (with_reducible exact ih4 _ _ _ _ _ _ _ _ _)
      | (with_reducible exact missivelaw09_small.mono _)
      | (with_reducible exact missiveref09_Params.mono _ _)
      | (with_reducible exact missiveref09_Quote.mono _ _ _)
      | (with_reducible exact missiveref09_SameParams.mono _ _ _)
      | (with_reducible exact missiveref09_Token.mono _ _)
      | (with_reducible exact LeO.refl _)
      | (with_reducible exact LeO.none _)
      | (with_reducible refine LeO.ite ?_ ?_)
      | (with_reducible refine LeO.bind ?_ (fun _ => ?_))
      | exact ih0 _ _ _ _ _
      | exact ih1 _ _ _ _ _
      | exact ih2 _ _ _ _ _ _ _ _
      | exact ih3 _ _ _ _ _ _ _ _ _
      | exact ih4 _ _ _ _ _ _ _ _ _
      | exact missivelaw09_small.mono _
      | exact missiveref09_Params.mono _ _
      | exact missiveref09_Quote.mono _ _ _
      | exact missiveref09_SameParams.mono _ _ _
      | exact missiveref09_Token.mono _ _
      | exact LeO.none _
      | refine LeO.ite ?_ ?_
      | refine LeO.bind ?_ (fun _ => ?_)
end Go.Proofs.YtieompfmhnpnaaaGreat.H
end
section
namespace Go.Proofs.YtieompfmhnpnaaaGreat.H
open Go.RowKit Go.Proofs.YtieompfmhnpnaaaGreatW.PrintWords Go.Proofs.YtieompfmhnpnaaaGreatW.PrintLast Go.Proofs.YtieompfmhnpnaaaGreatW.PrintMore
set_option linter.unusedVariables false
set_option linter.unusedSimpArgs false
theorem refwhite_at (c : UInt8) : missiveref01_White.f (c.toNat : Int) = some (wsB c) := white_at c
theorem reftrim_l1 (s : ByteArray) (hs : s.size ≤ 1099511627776) (i : Nat) : ∀ (n j : Nat), i ≤ j → j ≤ s.size → j - i = n →
    Ev (fun k => missiveref01_Trim.l1 k s (i : Int) (j : Int)) (mkB (rtrim (((bl s).take j).drop i)))
  | 0, j, hi, hj, hn => by
    obtain rfl : i = j := by omega
    refine Ev.step (fun k => by simp only [missiveref01_Trim.l1]; rfl) ?_
    refine ev_no (by omega) ?_
    refine ev_yes (by omega) ?_
    refine ev_yes (by omega) ?_
    refine ev_yes (by omega) ?_
    have : ((bl s).take i).drop i = [] := by simp
    rw [this, rtrim_nil]
    refine ev_done ?_
    apply bl_inj
    rw [bl_extract]
    simp
  | n + 1, j, hi, hj, hn => by
    have hlt : i < j := by omega
    have hw := wrap_down j (by omega) (by omega)
    refine Ev.step (fun k => by simp only [missiveref01_Trim.l1]; rfl) ?_
    have h1 : (i : Int) < (j : Int) := by omega
    have h2 : 0 ≤ ((j - 1 : Nat) : Int) := by omega
    have h3 : ((j - 1 : Nat) : Int) < (s.size : Int) := by omega
    have hb := bt_byteAt s (j - 1) (by omega)
    have ht := take_byteAt s (j - 1) (by omega)
    rw [show j - 1 + 1 = j from by omega] at ht
    have hd : ((bl s).take j).drop i = ((bl s).take (j - 1)).drop i ++ [byteAt s (j - 1)] := by
      rw [ht, List.drop_append_of_le_length (by rw [List.length_take, bl_length]; omega)]
    refine ev_yes h1 ?_
    simp only [hw]
    refine ev_yes h2 (ev_yes h3 ?_)
    simp only [hb, refwhite_at, Option.bind_some]
    rw [hd, rtrim_snoc]
    by_cases hws : wsB (byteAt s (j - 1)) = true
    · rw [hws]
      exact ev_yes rfl (reftrim_l1 s hs i n (j - 1) (by omega) (by omega) (by omega))
    · have hws' : wsB (byteAt s (j - 1)) = false := by simpa using hws
      rw [hws']
      refine ev_no (by decide) ?_
      refine ev_yes (by omega) (ev_yes (by omega) (ev_yes (by omega) ?_))
      refine ev_done ?_
      apply bl_inj
      rw [bl_extract, if_neg (by decide), bl_mkB, ← hd]
      simp
theorem reftrim_l0 (s : ByteArray) (hs : s.size ≤ 1099511627776) : ∀ (n i : Nat), i + n = s.size →
    Ev (fun k => missiveref01_Trim.l0 k s (i : Int)) (mkB (trimL ((bl s).drop i)))
  | 0, i, hi => by
    have hl := bl_length s
    refine Ev.step (fun k => by simp only [missiveref01_Trim.l0]; rfl) ?_
    refine ev_no (by omega) ?_
    refine Ev.step (fun k => by simp only [missiveref01_Trim.j1]; rfl) ?_
    have := reftrim_l1 s hs i 0 s.size (by omega) (by omega) (by omega)
    have e : (bl s).drop i = [] := List.drop_of_length_le (by omega)
    rw [e]
    rw [List.take_of_length_le (by omega), e] at this
    exact this
  | n + 1, i, hi => by
    have hl := bl_length s
    refine Ev.step (fun k => by simp only [missiveref01_Trim.l0]; rfl) ?_
    have hb := bt_byteAt s i (by omega)
    refine ev_yes (by omega) ?_
    refine ev_yes (by omega) ?_
    simp only [hb, refwhite_at, Option.bind_some]
    rw [drop_byteAt s i (by omega)]
    by_cases hws : wsB (byteAt s i) = true
    · simp only [hws, if_true]
      have e : trimL (byteAt s i :: (bl s).drop (i + 1)) = trimL ((bl s).drop (i + 1)) := by
        unfold trimL
        rw [List.dropWhile_cons_of_pos hws]
      rw [e, wrap_up i (by omega)]
      exact reftrim_l0 s hs n (i + 1) (by omega)
    · simp only [hws, if_false]
      refine Ev.step (fun k => by simp only [missiveref01_Trim.j1]; rfl) ?_
      have := reftrim_l1 s hs i (s.size - i) s.size (by omega) (by omega) (by omega)
      rw [List.take_of_length_le (by omega), drop_byteAt s i (by omega)] at this
      unfold trimL
      rw [List.dropWhile_cons_of_neg hws]
      exact this
theorem reftrim_ev (s : ByteArray) (hs : s.size ≤ 1099511627776) : Ev (fun k => missiveref01_Trim.f k s) (trimS s) := by
  have := reftrim_l0 s hs s.size 0 (by omega)
  simpa [missiveref01_Trim.f, trimS] using this
theorem not_byte {c n : UInt8} (h : ¬ c = n) : ¬ ((c.toNat : Int) = (n.toNat : Int)) := fun e => h (by rw [← UInt8.toNat_inj]; omega)
theorem ext_one (s : ByteArray) (i : Nat) (h : i < s.size) : s.extract i (i + 1) = mkB [byteAt s i] := by
  apply bl_inj
  rw [bl_extract, take_byteAt s i h, List.drop_append_of_le_length (by rw [List.length_take, bl_length]; omega), List.drop_of_length_le (by rw [List.length_take]; omega), bl_mkB, List.nil_append]
theorem mkB_app (a b : List UInt8) : mkB a ++ mkB b = mkB (a ++ b) := by apply bl_inj; rw [bl_append]
end Go.Proofs.YtieompfmhnpnaaaGreat.H
namespace Go.Proofs.YtieompfmhnpnaaaGreat.H
open Go.RowKit Go.Proofs.YtieompfmhnpnaaaGreatW.PrintWords Go.Proofs.YtieompfmhnpnaaaGreatW.PrintLast Go.Proofs.YtieompfmhnpnaaaGreatW.PrintMore
set_option linter.unusedVariables false
set_option linter.unusedSimpArgs false
end Go.Proofs.YtieompfmhnpnaaaGreat.H
namespace Go.Proofs.YtieompfmhnpnaaaGreat.H
open Go.RowKit Go.Proofs.YtieompfmhnpnaaaGreatW.PrintWords Go.Proofs.YtieompfmhnpnaaaGreatW.PrintLast Go.Proofs.YtieompfmhnpnaaaGreatW.PrintMore
set_option linter.unusedVariables false
set_option linter.unusedSimpArgs false
end Go.Proofs.YtieompfmhnpnaaaGreat.H
end
section
namespace Go.Proofs.YtieompfmhnpnaaaGreat.H
open Go.RowKit Go.Proofs.YtieompfmhnpnaaaGreatW.PrintWords Go.Proofs.YtieompfmhnpnaaaGreatW.PrintLast Go.Proofs.YtieompfmhnpnaaaGreatW.PrintMore
attribute [local go_sem] max2_int min2_int max_two min_two max_three min_three max_four min_four
set_option linter.unusedVariables false
set_option linter.unusedSimpArgs false
def missiveref09_Fold.f (a0 : ByteArray) (a1 : Int) : Option (Bool) := if a1 ≥ 1 then (if (wrap64 (a1 + 1)) < (a0.size : Int) then (if 0 ≤ a1 then (if a1 < (a0.size : Int) then (if (bt a0 a1) = 32 then (if 0 ≤ (wrap64 (a1 - 1)) then (if (wrap64 (a1 - 1)) < (a0.size : Int) then ((missiveref09_white.f (bt a0 (wrap64 (a1 - 1)))).bind fun t215 => (if t215 = true then (some false) else (if 0 ≤ (wrap64 (a1 + 1)) then ((missiveref09_white.f (bt a0 (wrap64 (a1 + 1)))).bind fun t216 => (some (!t216))) else (none)))) else (none)) else (none)) else (some false)) else (none)) else (none)) else (some false)) else (some false)
set_option maxHeartbeats 8000000 in
set_option maxRecDepth 100000 in
theorem missiveref09_Fold.calls (a0 : ByteArray) (a1 : Int) (r : Bool) (w : World) (h : missiveref09_Fold.f a0 a1 = some r) :
    Calls Tryz.prog 26 #[.string a0, .int .i64 a1] w fun e w' => e = .returned (.bool r) ∧ Drawn0 w w' := by
  have H : (if a1 ≥ 1 then (if (wrap64 (a1 + 1)) < (a0.size : Int) then (if 0 ≤ a1 then (if a1 < (a0.size : Int) then (if (bt a0 a1) = 32 then (if 0 ≤ (wrap64 (a1 - 1)) then (if (wrap64 (a1 - 1)) < (a0.size : Int) then ((missiveref09_white.f (bt a0 (wrap64 (a1 - 1)))).bind fun t215 => (if t215 = true then (some false) else (if 0 ≤ (wrap64 (a1 + 1)) then ((missiveref09_white.f (bt a0 (wrap64 (a1 + 1)))).bind fun t216 => (some (!t216))) else (none)))) else (none)) else (none)) else (some false)) else (none)) else (none)) else (some false)) else (some false)) = some r := h
  clear h
  by_cases c3 : a1 ≥ 1
  · rw [if_pos c3] at H
    have c3b0 : decide (1 ≤ a1) = true := decide_eq_true c3
    clear c3
    by_cases c4 : (wrap64 (a1 + 1)) < (a0.size : Int)
    · rw [if_pos c4] at H
      have c4b0 : decide ((wrap64 (a1 + 1)) < (a0.size : Int)) = true := decide_eq_true c4
      clear c4
      by_cases c5 : 0 ≤ a1
      · rw [if_pos c5] at H
        have c5b0 : decide (0 ≤ a1) = true := decide_eq_true c5
        clear c5
        by_cases c6 : a1 < (a0.size : Int)
        · rw [if_pos c6] at H
          have c6b0 : decide (a1 < (a0.size : Int)) = true := decide_eq_true c6
          clear c6
          by_cases c8 : (bt a0 a1) = 32
          · rw [if_pos c8] at H
            have c8b0 : ((bt a0 a1) == 32) = true := beq_iff_eq.mpr c8
            have c8b1 : ((bt a0 a1) != 32) = false := bne_eq_false_iff_eq.mpr c8
            clear c8
            obtain ⟨ji9, hji9⟩ : ∃ j_ : Int, (wrap64 (a1 - 1)) = j_ := ⟨_, rfl⟩
            replace H : (if 0 ≤ (ji9) then (if (ji9) < (a0.size : Int) then ((missiveref09_white.f (bt a0 (ji9))).bind fun t215 => (if t215 = true then (some false) else (if 0 ≤ (wrap64 (a1 + 1)) then ((missiveref09_white.f (bt a0 (wrap64 (a1 + 1)))).bind fun t216 => (some (!t216))) else (none)))) else (none)) else (none)) = some r := by first | (rw [hji9] at H; exact H) | (simp only [hji9] at H ⊢; exact H)
            have hji9w : (IntKind.i64.wrap (a1 - 1)) = ji9 := (i64_w _).trans hji9
            by_cases c10 : 0 ≤ (ji9)
            · rw [if_pos c10] at H
              have c10b0 : decide (0 ≤ (ji9)) = true := decide_eq_true c10
              clear c10
              by_cases c11 : (ji9) < (a0.size : Int)
              · rw [if_pos c11] at H
                have c11b0 : decide ((ji9) < (a0.size : Int)) = true := decide_eq_true c11
                clear c11
                replace H := Option.bind_eq_some_iff.mp H
                obtain ⟨t215, A130, H⟩ := H
                replace H : (if t215 = true then (some false) else (if 0 ≤ (wrap64 (a1 + 1)) then ((missiveref09_white.f (bt a0 (wrap64 (a1 + 1)))).bind fun t216 => (some (!t216))) else (none))) = some r := H
                have A13 := Aside0.mk A130
                clear A130
                by_cases c14 : t215 = true
                · subst c14
                  have H1 : (some false) = some r := by rw [if_pos rfl] at H; exact H
                  clear H
                  have H := H1
                  clear H1
                  obtain rfl := Option.some.inj H
                  have p7 : 0 ≤ (a1 : Int) := of_decide_eq_true (by first | (with_reducible assumption) | assumption)
                  have q7 : a1 < (a0.size : Int) := of_decide_eq_true (by first | (with_reducible assumption) | assumption)
                  have hx7 := bt_at a0 a1
                  replace p7 := eq_true p7
                  replace q7 := eq_true q7
                  have p12 : 0 ≤ ((ji9) : Int) := of_decide_eq_true (by first | (with_reducible assumption) | assumption)
                  have q12 : (ji9) < (a0.size : Int) := of_decide_eq_true (by first | (with_reducible assumption) | assumption)
                  have hx12 := bt_at a0 (ji9)
                  replace p12 := eq_true p12
                  replace q12 := eq_true q12
                  go_enter Tryz.func26, Tryz.ntmps26
                  go_wp2_with (first | (go_at_call 64; (with_reducible refine (missiveref09_white.calls (bt a0 (ji9)) true _ A13.out).mono ?_); rintro e w' ⟨rfl, ⟨nd, rfl⟩⟩))
                  go_ret
                  exact ⟨by first | rfl | (simp; done) | (simp only [← hji9] <;> (first | rfl | simp)) | (simp [*]; done), by repeat (first | exact Drawn0.refl _ | apply Drawn0.step)⟩
                · replace c14 := Bool.eq_false_iff.mpr c14
                  subst c14
                  have H1 : (if 0 ≤ (wrap64 (a1 + 1)) then ((missiveref09_white.f (bt a0 (wrap64 (a1 + 1)))).bind fun t216 => (some (!t216))) else (none)) = some r := by rw [if_neg (show ¬ (false = true) by decide)] at H; exact H
                  clear H
                  have H := H1
                  clear H1
                  obtain ⟨ji15, hji15⟩ : ∃ j_ : Int, (wrap64 (a1 + 1)) = j_ := ⟨_, rfl⟩
                  replace H : (if 0 ≤ (ji15) then ((missiveref09_white.f (bt a0 (ji15))).bind fun t216 => (some (!t216))) else (none)) = some r := by first | (rw [hji15] at H; exact H) | (simp only [hji15] at H ⊢; exact H)
                  (try rw [hji15] at c4b0)
                  (try rw [hji15] at A13)
                  have hji15w : (IntKind.i64.wrap (a1 + 1)) = ji15 := (i64_w _).trans hji15
                  by_cases c16 : 0 ≤ (ji15)
                  · rw [if_pos c16] at H
                    have c16b0 : decide (0 ≤ (ji15)) = true := decide_eq_true c16
                    clear c16
                    replace H := Option.bind_eq_some_iff.mp H
                    obtain ⟨t216, A180, H⟩ := H
                    replace H : (some (!t216)) = some r := H
                    have A18 := Aside0.mk A180
                    clear A180
                    obtain rfl := Option.some.inj H
                    have p7 : 0 ≤ (a1 : Int) := of_decide_eq_true (by first | (with_reducible assumption) | assumption)
                    have q7 : a1 < (a0.size : Int) := of_decide_eq_true (by first | (with_reducible assumption) | assumption)
                    have hx7 := bt_at a0 a1
                    replace p7 := eq_true p7
                    replace q7 := eq_true q7
                    have p12 : 0 ≤ ((ji9) : Int) := of_decide_eq_true (by first | (with_reducible assumption) | assumption)
                    have q12 : (ji9) < (a0.size : Int) := of_decide_eq_true (by first | (with_reducible assumption) | assumption)
                    have hx12 := bt_at a0 (ji9)
                    replace p12 := eq_true p12
                    replace q12 := eq_true q12
                    go_enter Tryz.func26, Tryz.ntmps26
                    go_wp2_with (first | (go_at_call 64; (with_reducible refine (missiveref09_white.calls (bt a0 (ji9)) false _ A13.out).mono ?_); rintro e w' ⟨rfl, ⟨nd, rfl⟩⟩; have p17 : 0 ≤ ((ji15) : Int) := of_decide_eq_true (by first | (with_reducible assumption) | assumption); have q17 : (ji15) < (a0.size : Int) := of_decide_eq_true (by first | (with_reducible assumption) | assumption); have hx17 := bt_at a0 (ji15); replace p17 := eq_true p17; replace q17 := eq_true q17) | (go_at_call 64; (with_reducible refine (missiveref09_white.calls (bt a0 (ji15)) t216 _ A18.out).mono ?_); rintro e w' ⟨rfl, ⟨nd, rfl⟩⟩))
                    go_ret
                    exact ⟨by first | rfl | (simp; done) | (simp only [← hji9, ← hji15] <;> (first | rfl | simp)) | (simp [*]; done), by repeat (first | exact Drawn0.refl _ | apply Drawn0.step)⟩
                  · rw [if_neg c16] at H
                    exact absurd H (by simp)
              · rw [if_neg c11] at H
                exact absurd H (by simp)
            · rw [if_neg c10] at H
              exact absurd H (by simp)
          · rw [if_neg c8] at H
            have c8b0 : ((bt a0 a1) == 32) = false := beq_eq_false_iff_ne.mpr c8
            have c8b1 : ((bt a0 a1) != 32) = true := bne_iff_ne.mpr c8
            obtain rfl := Option.some.inj H
            have p7 : 0 ≤ (a1 : Int) := of_decide_eq_true (by first | (with_reducible assumption) | assumption)
            have q7 : a1 < (a0.size : Int) := of_decide_eq_true (by first | (with_reducible assumption) | assumption)
            have hx7 := bt_at a0 a1
            replace p7 := eq_true p7
            replace q7 := eq_true q7
            go_enter Tryz.func26, Tryz.ntmps26
            go_wp2
            go_ret
            exact ⟨by first | rfl | (simp; done) | (simp [*]; done), by repeat (first | exact Drawn0.refl _ | apply Drawn0.step)⟩
        · rw [if_neg c6] at H
          exact absurd H (by simp)
      · rw [if_neg c5] at H
        exact absurd H (by simp)
    · rw [if_neg c4] at H
      have c4b0 : decide ((wrap64 (a1 + 1)) < (a0.size : Int)) = false := decide_eq_false c4
      clear c4
      obtain rfl := Option.some.inj H
      go_enter Tryz.func26, Tryz.ntmps26
      go_wp2
      go_ret
      exact ⟨by first | rfl | (simp; done) | (simp [*]; done), by repeat (first | exact Drawn0.refl _ | apply Drawn0.step)⟩
  · rw [if_neg c3] at H
    have c3b0 : decide (1 ≤ a1) = false := decide_eq_false c3
    clear c3
    obtain rfl := Option.some.inj H
    go_enter Tryz.func26, Tryz.ntmps26
    go_wp2
    go_ret
    exact ⟨by first | rfl | (simp; done) | (simp [*]; done), by repeat (first | exact Drawn0.refl _ | apply Drawn0.step)⟩
mutual
def missivelaw09_plain.l0 : Nat → ByteArray → Int → Int → Option (Bool)
  | 0, _, _, _ => none
  | k + 1, x0, x3, x4 => if x4 < (x0.size : Int) then (if 0 ≤ x4 then (if (bt x0 x4) = 13 then (missivelaw09_plain.j1 k x0 x3 x4 true) else (if (bt x0 x4) = 10 then (missivelaw09_plain.j1 k x0 x3 x4 true) else (missivelaw09_plain.j1 k x0 x3 x4 (decide ((wrap64 (x4 - x3)) ≥ 700))))) else (none)) else (some (decide ((wrap64 ((x0.size : Int) - x3)) < 700)))
def missivelaw09_plain.j1 : Nat → ByteArray → Int → Int → Bool → Option (Bool)
  | 0, _, _, _, _ => none
  | k + 1, x0, x3, x4, x30 => if x30 = true then (some false) else ((missiveref09_Fold.f x0 x4).bind fun t218 => (if t218 = true then (missivelaw09_plain.l0 k x0 x4 (wrap64 (x4 + 1))) else (missivelaw09_plain.l0 k x0 x3 (wrap64 (x4 + 1)))))
end
def missivelaw09_plain.f (k : Nat) (a0 : ByteArray) : Option (Bool) := (text_Trim.f k a0).bind fun t217 => (if t217.toList = a0.toList then (missivelaw09_plain.l0 k a0 0 0) else (some false))
theorem missivelaw09_plain.mono_l : ∀ k, (∀ y0 y1 y2, LeO (missivelaw09_plain.l0 k y0 y1 y2) (missivelaw09_plain.l0 (k + 1) y0 y1 y2)) ∧ (∀ y0 y1 y2 y3, LeO (missivelaw09_plain.j1 k y0 y1 y2 y3) (missivelaw09_plain.j1 (k + 1) y0 y1 y2 y3))
  | 0 => ⟨fun _ _ _ r h => by simp [missivelaw09_plain.l0] at h, fun _ _ _ _ r h => by simp [missivelaw09_plain.j1] at h⟩
  | k + 1 => by
    obtain ⟨ih0, ih1⟩ := missivelaw09_plain.mono_l k
    refine ⟨?_, ?_⟩
    · intro y0 y1 y2
      unfold missivelaw09_plain.l0
      repeat' first
      | (with_reducible exact ih0 _ _ _)
      | (with_reducible exact ih1 _ _ _ _)
      | (with_reducible exact text_Trim.mono _ _)
      | (with_reducible exact LeO.refl _)
      | (with_reducible exact LeO.none _)
      | (with_reducible refine LeO.ite ?_ ?_)
      | (with_reducible refine LeO.bind ?_ (fun _ => ?_))
      | exact ih0 _ _ _
      | exact ih1 _ _ _ _
      | exact text_Trim.mono _ _
      | exact LeO.none _
      | refine LeO.ite ?_ ?_
      | refine LeO.bind ?_ (fun _ => ?_)
    · intro y0 y1 y2 y3
      unfold missivelaw09_plain.j1
      repeat' first
      | (with_reducible exact ih0 _ _ _)
      | (with_reducible exact ih1 _ _ _ _)
      | (with_reducible exact text_Trim.mono _ _)
      | (with_reducible exact LeO.refl _)
      | (with_reducible exact LeO.none _)
      | (with_reducible refine LeO.ite ?_ ?_)
      | (with_reducible refine LeO.bind ?_ (fun _ => ?_))
      | exact ih0 _ _ _
      | exact ih1 _ _ _ _
      | exact text_Trim.mono _ _
      | exact LeO.none _
      | refine LeO.ite ?_ ?_
      | refine LeO.bind ?_ (fun _ => ?_)
theorem missivelaw09_plain.mono : ∀ a0 k, LeO (missivelaw09_plain.f k a0) (missivelaw09_plain.f (k + 1) a0) := by
  intro a0 k
  obtain ⟨ih0, ih1⟩ := missivelaw09_plain.mono_l k
  unfold missivelaw09_plain.f
  repeat' first
      | (with_reducible exact ih0 _ _ _)
      | (with_reducible exact ih1 _ _ _ _)
      | (with_reducible exact text_Trim.mono _ _)
      | (with_reducible exact LeO.refl _)
      | (with_reducible exact LeO.none _)
      | (with_reducible refine LeO.ite ?_ ?_)
      | (with_reducible refine LeO.bind ?_ (fun _ => ?_))
      | exact ih0 _ _ _
      | exact ih1 _ _ _ _
      | exact text_Trim.mono _ _
      | exact LeO.none _
      | refine LeO.ite ?_ ?_
      | refine LeO.bind ?_ (fun _ => ?_)
end Go.Proofs.YtieompfmhnpnaaaGreat.H
end
section
namespace Go.Proofs.YtieompfmhnpnaaaGreat.H
open Go.RowKit Go.Proofs.YtieompfmhnpnaaaGreatW.PrintWords Go.Proofs.YtieompfmhnpnaaaGreatW.PrintLast Go.Proofs.YtieompfmhnpnaaaGreatW.PrintMore
set_option linter.unusedVariables false
set_option linter.unusedSimpArgs false
def foldB (s : ByteArray) (i : Nat) : Bool := decide (1 ≤ i) && decide (i + 1 < s.size) && isFoldB s i
theorem rwhite_at (c : UInt8) : missiveref09_white.f (c.toNat : Int) = some (blankB c) := blank_at c
theorem fold_eq (s : ByteArray) (i : Nat) (hs : s.size ≤ 1099511627776) (hi : i < s.size) : missiveref09_Fold.f s (i : Int) = some (foldB s i) := by
  unfold missiveref09_Fold.f
  by_cases h1 : 1 ≤ i
  · rw [if_pos (show (i : Int) ≥ 1 by omega), wrap_up i (by omega), wrap_down i (by omega) (by omega)]
    by_cases h2 : i + 1 < s.size
    · rw [if_pos (by omega), if_pos (by omega), if_pos (by omega), bt_byteAt s i hi, bt_byteAt s (i - 1) (by omega), bt_byteAt s (i + 1) (by omega), rwhite_at, rwhite_at]
      have e : foldB s i = isFoldB s i := by simp [foldB, h1, h2]
      rw [e]
      unfold isFoldB
      by_cases h3 : byteAt s i = 32
      · rw [if_pos (by rw [h3]; rfl), if_pos (by omega), if_pos (by omega), h3]
        simp only [Option.bind_some]
        by_cases h4 : blankB (byteAt s (i - 1)) = true
        · simp [h4]
        · have h4 : blankB (byteAt s (i - 1)) = false := by simpa using h4
          rw [h4, if_neg (by decide), if_pos (by omega)]
          simp
      · have h3' : ¬ ((byteAt s i).toNat : Int) = 32 := fun h => h3 (by
          have : (byteAt s i).toNat = 32 := by omega
          exact UInt8.toNat_inj.1 (by simpa using this))
        rw [if_neg h3']
        simp [h3]
    · rw [if_neg (by omega)]
      simp [foldB, h2]
  · rw [if_neg (show ¬ (i : Int) ≥ 1 by omega)]
    simp [foldB, h1]
theorem fold_out (s : ByteArray) (i : Nat) (hi : s.size ≤ i) (hb : i ≤ 1099511627776) (h1 : 1 ≤ i) : missiveref09_Fold.f s (i : Int) = some false := by
  unfold missiveref09_Fold.f
  rw [if_pos (show (i : Int) ≥ 1 by omega), wrap_up i (by omega), if_neg (by omega)]
theorem fold_any (s : ByteArray) (i : Nat) (hs : s.size ≤ 1099511627776) (hb : i ≤ 1099511627776) (h1 : 1 ≤ i) : missiveref09_Fold.f s (i : Int) = some (foldB s i) := by
  by_cases h : i < s.size
  · exact fold_eq s i hs h
  · rw [fold_out s i (by omega) hb h1]
    have : foldB s i = false := by unfold foldB; rw [show decide (i + 1 < s.size) = false by simp; omega]; simp
    rw [this]
end Go.Proofs.YtieompfmhnpnaaaGreat.H
end
section
namespace Go.Proofs.YtieompfmhnpnaaaGreat.H
open Go.RowKit Go.Proofs.YtieompfmhnpnaaaGreatW.PrintWords Go.Proofs.YtieompfmhnpnaaaGreatW.PrintLast Go.Proofs.YtieompfmhnpnaaaGreatW.PrintMore
set_option linter.unusedVariables false
set_option linter.unusedSimpArgs false
def sameB (a b : ByteArray) : Bool := (bl a).map lowB == (bl b).map lowB
theorem same_l0 (a b : ByteArray) (hs : a.size ≤ 1099511627776) (hab : a.size = b.size) : ∀ (n i : Nat), i + n = a.size →
    Ev (fun k => text_Same.l0 k a b (a.size : Int) (i : Int)) (((bl a).drop i).map lowB == ((bl b).drop i).map lowB)
  | 0, i, hi => by
    have hl := bl_length a
    have hl2 := bl_length b
    refine Ev.step (fun k => by simp only [text_Same.l0]; rfl) ?_
    refine ev_no (by omega) ?_
    exact ev_done (by rw [List.drop_of_length_le (by omega), List.drop_of_length_le (by omega)]; rfl)
  | n + 1, i, hi => by
    refine Ev.step (fun k => by simp only [text_Same.l0]; rfl) ?_
    have hb := bt_byteAt a i (by omega)
    have hb2 := bt_byteAt b i (by omega)
    refine ev_yes (by omega) ?_
    refine ev_yes (by omega) ?_
    refine ev_yes (by omega) ?_
    simp only [hb, lower_at, Option.bind_some]
    refine ev_yes (by omega) ?_
    simp only [hb2, lower_at, Option.bind_some]
    rw [drop_byteAt a i (by omega), drop_byteAt b i (by omega), List.map_cons, List.map_cons]
    by_cases h : lowB (byteAt a i) = lowB (byteAt b i)
    · refine ev_yes (by rw [h]) ?_
      rw [h, List.cons_beq_cons, beq_self_eq_true, Bool.true_and, wrap_up i (by omega)]
      exact same_l0 a b hs hab n (i + 1) (by omega)
    · refine ev_no (fun e => h (by rw [← UInt8.toNat_inj]; omega)) ?_
      rw [List.cons_beq_cons, beq_eq_false_iff_ne.2 h, Bool.false_and]
      exact Ev.now _
theorem same_ev (a b : ByteArray) (hs : a.size ≤ 1099511627776) : Ev (fun k => text_Same.f k a b) (sameB a b) := by
  unfold text_Same.f sameB
  by_cases h : a.size = b.size
  · refine ev_yes (by omega) ?_
    have := same_l0 a b hs h a.size 0 (by omega)
    simpa using this
  · refine ev_no (by omega) ?_
    refine ev_done ?_
    symm
    rw [beq_eq_false_iff_ne]
    intro e
    have := congrArg List.length e
    rw [List.length_map, List.length_map, bl_length, bl_length] at this
    exact h this
theorem rd35 (l : List S35) (i : Nat) (h : i < l.length) : rd_T35 l (i : Int) = l[i] := by simp [rd_T35, List.getD, h]
theorem drop35 (l : List S35) (i : Nat) (h : i < l.length) : l.drop i = rd_T35 l (i : Int) :: l.drop (i + 1) := by
  rw [rd35 l i h]
  exact List.drop_eq_getElem_cons h
def Small35 (l : List S35) : Prop := l.length ≤ 1099511627776 ∧ ∀ f ∈ l, f.f0.size ≤ 1099511627776
theorem Small35.at {l : List S35} (h : Small35 l) {i : Nat} (hi : i < l.length) : (rd_T35 l (i : Int)).f0.size ≤ 1099511627776 := by
  rw [rd35 l i hi]
  exact h.2 _ (List.getElem_mem hi)
def getS (l : List S35) (nm : ByteArray) : ByteArray × Bool :=
  match l with
  | [] => ((⟨#[]⟩ : ByteArray), false)
  | f :: fs => if sameB f.f0 nm then (f.f1, true) else getS fs nm
def allS (l : List S35) (nm : ByteArray) : List ByteArray := (l.filter fun f => sameB f.f0 nm).map (·.f1)
def dropS (l : List S35) (nm : ByteArray) : List S35 := l.filter fun f => !sameB f.f0 nm
def setL (nm v : ByteArray) : Bool → List S35 → List S35
  | found, [] => if found then [] else [⟨nm, v⟩]
  | found, f :: fs => if sameB f.f0 nm then (if found then setL nm v found fs else ⟨nm, v⟩ :: setL nm v true fs) else f :: setL nm v found fs
def setS (l : List S35) (nm v : ByteArray) : List S35 := setL nm v false l
theorem get_l0 (l : List S35) (nm : ByteArray) (hs : Small35 l) : ∀ (n i : Nat), i + n = l.length →
    Ev (fun k => header_Get.l0 k nm l (l.length : Int) (i : Int)) (getS (l.drop i) nm)
  | 0, i, hi => by
    refine Ev.step (fun k => by simp only [header_Get.l0]; rfl) ?_
    refine ev_no (by omega) ?_
    exact ev_done (by rw [List.drop_of_length_le (by omega)]; rfl)
  | n + 1, i, hi => by
    have hl := hs.1
    refine Ev.step (fun k => by simp only [header_Get.l0]; rfl) ?_
    refine ev_yes (by omega) ?_
    refine ev_yes (by omega) ?_
    refine ev_yes (by omega) ?_
    refine Ev.bind (same_ev _ nm (hs.at (i := i) (by omega))) ?_
    rw [drop35 l i (by omega), getS]
    by_cases h : sameB (rd_T35 l (i : Int)).f0 nm = true
    · rw [if_pos h]
      exact ev_yes h (Ev.now _)
    · rw [if_neg h]
      refine ev_no h ?_
      rw [wrap_up i (by omega)]
      exact get_l0 l nm hs n (i + 1) (by omega)
theorem get_ev (l : List S35) (nm : ByteArray) (hs : Small35 l) : Ev (fun k => header_Get.f k l nm) (getS l nm) := by
  unfold header_Get.f
  have := get_l0 l nm hs l.length 0 (by omega)
  simpa using this
theorem all_l0 (l : List S35) (nm : ByteArray) (hs : Small35 l) : ∀ (n i : Nat) (acc : List ByteArray), i + n = l.length → acc.length ≤ i →
    Ev (fun k => header_All.l0 k nm acc l (l.length : Int) (i : Int)) (acc ++ allS (l.drop i) nm)
  | 0, i, acc, hi, ha => by
    refine Ev.step (fun k => by simp only [header_All.l0]; rfl) ?_
    refine ev_no (by omega) ?_
    exact ev_done (by rw [List.drop_of_length_le (by omega)]; simp [allS])
  | n + 1, i, acc, hi, ha => by
    have hl := hs.1
    refine Ev.step (fun k => by simp only [header_All.l0]; rfl) ?_
    refine ev_yes (by omega) ?_
    refine ev_yes (by omega) ?_
    refine ev_yes (by omega) ?_
    refine Ev.bind (same_ev _ nm (hs.at (i := i) (by omega))) ?_
    rw [drop35 l i (by omega)]
    by_cases h : sameB (rd_T35 l (i : Int)).f0 nm = true
    · refine ev_yes h ?_
      refine ev_yes (by omega) ?_
      have e : acc ++ allS (rd_T35 l (i : Int) :: l.drop (i + 1)) nm = (acc ++ [(rd_T35 l (i : Int)).f1]) ++ allS (l.drop (i + 1)) nm := by
        unfold allS
        rw [List.filter_cons_of_pos (p := fun f : S35 => sameB f.f0 nm) h]
        simp
      rw [e, wrap_up i (by omega)]
      exact all_l0 l nm hs n (i + 1) _ (by omega) (by simp; omega)
    · refine ev_no h ?_
      have e : allS (rd_T35 l (i : Int) :: l.drop (i + 1)) nm = allS (l.drop (i + 1)) nm := by
        unfold allS
        rw [List.filter_cons_of_neg (p := fun f : S35 => sameB f.f0 nm) h]
      rw [e, wrap_up i (by omega)]
      exact all_l0 l nm hs n (i + 1) _ (by omega) (by omega)
theorem all_ev (l : List S35) (nm : ByteArray) (hs : Small35 l) : Ev (fun k => header_All.f k l nm) (allS l nm) := by
  unfold header_All.f
  have := all_l0 l nm hs l.length 0 [] (by omega) (by simp)
  simpa using this
theorem drop_l0 (l : List S35) (nm : ByteArray) (hs : Small35 l) : ∀ (n i : Nat) (acc : List S35), i + n = l.length → acc.length ≤ i →
    Ev (fun k => header_Drop.l0 k nm acc l (l.length : Int) (i : Int)) (acc ++ dropS (l.drop i) nm)
  | 0, i, acc, hi, ha => by
    refine Ev.step (fun k => by simp only [header_Drop.l0]; rfl) ?_
    refine ev_no (by omega) ?_
    exact ev_done (by rw [List.drop_of_length_le (by omega)]; simp [dropS])
  | n + 1, i, acc, hi, ha => by
    have hl := hs.1
    refine Ev.step (fun k => by simp only [header_Drop.l0]; rfl) ?_
    refine ev_yes (by omega) ?_
    refine ev_yes (by omega) ?_
    refine ev_yes (by omega) ?_
    refine Ev.bind (same_ev _ nm (hs.at (i := i) (by omega))) ?_
    rw [drop35 l i (by omega)]
    by_cases h : sameB (rd_T35 l (i : Int)).f0 nm = true
    · refine ev_yes h ?_
      have e : dropS (rd_T35 l (i : Int) :: l.drop (i + 1)) nm = dropS (l.drop (i + 1)) nm := by
        unfold dropS
        rw [List.filter_cons_of_neg (by simp [h])]
      rw [e, wrap_up i (by omega)]
      exact drop_l0 l nm hs n (i + 1) _ (by omega) (by omega)
    · refine ev_no h ?_
      refine ev_yes (by omega) ?_
      have e : acc ++ dropS (rd_T35 l (i : Int) :: l.drop (i + 1)) nm = (acc ++ [(⟨(rd_T35 l (i : Int)).f0, (rd_T35 l (i : Int)).f1⟩ : S35)]) ++ dropS (l.drop (i + 1)) nm := by
        unfold dropS
        rw [List.filter_cons_of_pos (by simp [h])]
        simp
      rw [e, wrap_up i (by omega)]
      exact drop_l0 l nm hs n (i + 1) _ (by omega) (by simp; omega)
theorem drop_ev (l : List S35) (nm : ByteArray) (hs : Small35 l) : Ev (fun k => header_Drop.f k l nm) (dropS l nm) := by
  unfold header_Drop.f
  have := drop_l0 l nm hs l.length 0 [] (by omega) (by simp)
  simpa using this
theorem set_l0 (l : List S35) (nm v : ByteArray) (hs : Small35 l) : ∀ (n i : Nat) (acc : List S35) (found : Bool), i + n = l.length → acc.length ≤ i →
    Ev (fun k => header_Set.l0 k nm v acc found l (l.length : Int) (i : Int)) (acc ++ setL nm v found (l.drop i))
  | 0, i, acc, found, hi, ha => by
    have hl := hs.1
    refine Ev.step (fun k => by simp only [header_Set.l0]; rfl) ?_
    refine ev_no (by omega) ?_
    rw [List.drop_of_length_le (by omega), setL]
    cases found with
    | true => exact ev_yes rfl (ev_done (by simp))
    | false =>
      refine ev_no (by decide) (ev_yes (by omega) (ev_done ?_))
      simp
  | n + 1, i, acc, found, hi, ha => by
    have hl := hs.1
    refine Ev.step (fun k => by simp only [header_Set.l0]; rfl) ?_
    refine ev_yes (by omega) ?_
    refine ev_yes (by omega) ?_
    refine ev_yes (by omega) ?_
    refine Ev.bind (same_ev _ nm (hs.at (i := i) (by omega))) ?_
    rw [drop35 l i (by omega), setL]
    by_cases h : sameB (rd_T35 l (i : Int)).f0 nm = true
    · refine ev_yes h ?_
      rw [if_pos h]
      cases found with
      | true =>
        refine ev_yes rfl ?_
        rw [if_pos rfl, wrap_up i (by omega)]
        exact set_l0 l nm v hs n (i + 1) _ _ (by omega) (by omega)
      | false =>
        refine ev_no (by decide) ?_
        refine ev_yes (by omega) ?_
        have e : acc ++ (if false = true then setL nm v false (l.drop (i + 1)) else ⟨nm, v⟩ :: setL nm v true (l.drop (i + 1))) = (acc ++ [(⟨nm, v⟩ : S35)]) ++ setL nm v true (l.drop (i + 1)) := by simp
        rw [e, wrap_up i (by omega)]
        exact set_l0 l nm v hs n (i + 1) _ _ (by omega) (by simp; omega)
    · refine ev_no h ?_
      refine ev_yes (by omega) ?_
      rw [if_neg h]
      have e : acc ++ rd_T35 l (i : Int) :: setL nm v found (l.drop (i + 1)) = (acc ++ [(⟨(rd_T35 l (i : Int)).f0, (rd_T35 l (i : Int)).f1⟩ : S35)]) ++ setL nm v found (l.drop (i + 1)) := by simp
      rw [e, wrap_up i (by omega)]
      exact set_l0 l nm v hs n (i + 1) _ _ (by omega) (by simp; omega)
theorem set_ev (l : List S35) (nm v : ByteArray) (hs : Small35 l) : Ev (fun k => header_Set.f k l nm v) (setS l nm v) := by
  unfold header_Set.f setS
  have := set_l0 l nm v hs l.length 0 [] false (by omega) (by simp)
  simpa using this
def eqF : List S35 → List S35 → Bool
  | [], [] => true
  | a :: aa, b :: bb => (bl a.f0 == bl b.f0 && bl a.f1 == bl b.f1) && eqF aa bb
  | _, _ => false
theorem eqF_refl : ∀ l, eqF l l = true
  | [] => rfl
  | a :: aa => by simp [eqF, eqF_refl aa]
theorem eqF_length : ∀ {a b : List S35}, a.length ≠ b.length → eqF a b = false
  | [], [], h => absurd rfl h
  | [], _ :: _, _ => rfl
  | _ :: _, [], _ => rfl
  | a :: aa, b :: bb, h => by
    unfold eqF
    rw [eqF_length (a := aa) (b := bb) (fun e => h (by simp [e]))]
    simp
theorem eqf_l0 (a b : List S35) (hs : a.length ≤ 1099511627776) (hab : a.length = b.length) : ∀ (n i : Nat), i + n = a.length →
    Ev (fun k => missiveref09_Same.l0 k a b (i : Int)) (eqF (a.drop i) (b.drop i))
  | 0, i, hi => by
    refine Ev.step (fun k => by simp only [missiveref09_Same.l0]; rfl) ?_
    refine ev_no (by omega) ?_
    exact ev_done (by rw [List.drop_of_length_le (by omega), List.drop_of_length_le (by omega)]; rfl)
  | n + 1, i, hi => by
    refine Ev.step (fun k => by simp only [missiveref09_Same.l0]; rfl) ?_
    refine ev_yes (by omega) ?_
    refine ev_yes (by omega) ?_
    refine ev_yes (by omega) ?_
    rw [drop35 a i (by omega), drop35 b i (by omega), eqF]
    simp only [toList_bl]
    by_cases h : (bl (rd_T35 a (i : Int)).f0 == bl (rd_T35 b (i : Int)).f0 && bl (rd_T35 a (i : Int)).f1 == bl (rd_T35 b (i : Int)).f1) = true
    · refine ev_no ?_ ?_
      · rw [Bool.and_eq_true] at h
        rw [h.1, h.2]
        decide
      · rw [h, Bool.true_and, wrap_up i (by omega)]
        exact eqf_l0 a b hs hab n (i + 1) (by omega)
    · have h' : (bl (rd_T35 a (i : Int)).f0 == bl (rd_T35 b (i : Int)).f0 && bl (rd_T35 a (i : Int)).f1 == bl (rd_T35 b (i : Int)).f1) = false := by simpa only [Bool.not_eq_true] using h
      rw [h', Bool.false_and]
      refine ev_yes ?_ (Ev.now _)
      rw [← Bool.not_and, h']
      rfl
theorem eqf_ev (a b : List S35) (hs : a.length ≤ 1099511627776) : Ev (fun k => missiveref09_Same.f k a b) (eqF a b) := by
  unfold missiveref09_Same.f
  by_cases h : a.length = b.length
  · refine ev_yes (by omega) ?_
    have := eqf_l0 a b hs h a.length 0 (by omega)
    simpa using this
  · refine ev_no (by omega) ?_
    exact ev_done (eqF_length h).symm
def bytesF (l : List S35) : Nat := (l.map fun f => f.f0.size + f.f1.size).sum
def fewS (l : List S35) : Bool := l.all (fun f => f.f0.size ≤ 6000 && f.f1.size ≤ 6000) && (l.length ≤ 420 && bytesF l ≤ 6000)
theorem few_l0 (l : List S35) (hs : l.length ≤ 4398046511104) : ∀ (n i : Nat) (acc : Nat), i + n = l.length → acc ≤ 12000 * i →
    Ev (fun k => missivelaw09_few.l0 k l (acc : Int) (i : Int)) ((l.drop i).all (fun f => f.f0.size ≤ 6000 && f.f1.size ≤ 6000) && (l.length ≤ 420 && acc + bytesF (l.drop i) ≤ 6000))
  | 0, i, acc, hi, ha => by
    refine Ev.step (fun k => by simp only [missivelaw09_few.l0]; rfl) ?_
    refine ev_no (by omega) ?_
    rw [List.drop_of_length_le (by omega)]
    by_cases h : l.length ≤ 420
    · refine ev_yes (by omega) (ev_done ?_)
      simp [h, bytesF]
      omega
    · refine ev_no (by omega) (ev_done ?_)
      simp [h]
  | n + 1, i, acc, hi, ha => by
    refine Ev.step (fun k => by simp only [missivelaw09_few.l0]; rfl) ?_
    refine ev_yes (by omega) ?_
    refine ev_yes (by omega) ?_
    rw [drop35 l i (by omega), List.all_cons]
    by_cases h0 : (rd_T35 l (i : Int)).f0.size ≤ 6000
    · refine ev_no (by omega) ?_
      by_cases h1 : (rd_T35 l (i : Int)).f1.size ≤ 6000
      · refine ev_no (by omega) ?_
        have e1 : wrap64 (wrap64 ((acc : Int) + ((rd_T35 l (i : Int)).f0.size : Int)) + ((rd_T35 l (i : Int)).f1.size : Int)) = ((acc + (rd_T35 l (i : Int)).f0.size + (rd_T35 l (i : Int)).f1.size : Nat) : Int) := by
          rw [show wrap64 ((acc : Int) + ((rd_T35 l (i : Int)).f0.size : Int)) = ((acc + (rd_T35 l (i : Int)).f0.size : Nat) : Int) by
            rw [← i64_w, Int.natCast_add]; exact IntWalk.i64_in _ (by omega)]
          rw [← i64_w, Int.natCast_add]
          exact IntWalk.i64_in _ (by omega)
        rw [e1, wrap_up i (by omega)]
        have e2 : bytesF (rd_T35 l (i : Int) :: l.drop (i + 1)) = ((rd_T35 l (i : Int)).f0.size + (rd_T35 l (i : Int)).f1.size) + bytesF (l.drop (i + 1)) := by simp [bytesF]
        rw [e2, show acc + ((rd_T35 l (i : Int)).f0.size + (rd_T35 l (i : Int)).f1.size + bytesF (l.drop (i + 1))) = (acc + (rd_T35 l (i : Int)).f0.size + (rd_T35 l (i : Int)).f1.size) + bytesF (l.drop (i + 1)) by omega]
        have e3 : (decide ((rd_T35 l (i : Int)).f0.size ≤ 6000) && decide ((rd_T35 l (i : Int)).f1.size ≤ 6000)) = true := by simp [h0, h1]
        rw [e3, Bool.true_and]
        exact few_l0 l hs n (i + 1) _ (by omega) (by omega)
      · refine ev_yes (by omega) (ev_done ?_)
        simp [h1]
    · refine ev_yes (by omega) (ev_done ?_)
      simp [h0]
theorem few_ev (l : List S35) (hs : l.length ≤ 4398046511104) : Ev (fun k => missivelaw09_few.f k l) (fewS l) := by
  unfold missivelaw09_few.f fewS
  have := few_l0 l hs l.length 0 0 (by omega) (by omega)
  simpa using this
theorem fewS_small {l : List S35} (h : fewS l = true) : Small35 l ∧ l.length ≤ 420 ∧ bytesF l ≤ 6000 ∧ ∀ f ∈ l, f.f0.size ≤ 6000 ∧ f.f1.size ≤ 6000 := by
  unfold fewS at h
  simp only [Bool.and_eq_true, List.all_eq_true, decide_eq_true_eq] at h
  exact ⟨⟨by omega, fun f hf => by have := (h.1 f hf).1; omega⟩, h.2.1, h.2.2, h.1⟩
end Go.Proofs.YtieompfmhnpnaaaGreat.H
end
section
namespace Go.Proofs.YtieompfmhnpnaaaGreat.H
open Go.RowKit Go.Proofs.YtieompfmhnpnaaaGreatW.PrintWords Go.Proofs.YtieompfmhnpnaaaGreatW.PrintLast Go.Proofs.YtieompfmhnpnaaaGreatW.PrintMore
set_option linter.unusedVariables false
set_option linter.unusedSimpArgs false
theorem cut_split' (x : ByteArray) (c : UInt8) (j : Nat) (hj : j < x.size) (hb : byteAt x j = c) (hn : c ∉ (bl x).take j) : cutAt x c = (x.extract 0 j, x.extract (j + 1) x.size, true) := by
  have hl := bl_length x
  have e : bl x = (bl x).take j ++ c :: (bl x).drop (j + 1) := by
    rw [← hb, ← drop_byteAt x j hj, List.take_append_drop]
  rw [cutAt_cut e hn]
  have e1 : mkB ((bl x).take j) = x.extract 0 j := by apply bl_inj; rw [bl_extract]; rfl
  have e2 : mkB ((bl x).drop (j + 1)) = x.extract (j + 1) x.size := by apply bl_inj; rw [bl_extract, List.take_of_length_le (by omega)]
  rw [e1, e2]
theorem byteAt_ex (s : ByteArray) (p q i : Nat) (h : p + i < q) (hq : q ≤ s.size) : byteAt (s.extract p q) i = byteAt s (p + i) := by
  have h1 := byteAt_list (s.extract p q) i (by simp; omega)
  have h2 := byteAt_list s (p + i) (by omega)
  rw [bl_extract, List.getElem?_drop, List.getElem?_take, if_pos h, h2] at h1
  exact (Option.some.inj h1).symm
theorem trimCR_ext (s : ByteArray) (a i : Nat) (h1 : a ≤ i) (h2 : i ≤ s.size) : trimCR (s.extract a i) = if a < i ∧ byteAt s (i - 1) = 13 then s.extract a (i - 1) else s.extract a i := by
  have hz : (s.extract a i).size = i - a := by simp; omega
  unfold trimCR
  rw [hz]
  by_cases ha : a < i
  · have e : ((s.extract a i).extract (i - a - 1) (i - a)).toList = [byteAt s (i - 1)] := by
      rw [toList_bl]
      have := ext_one (s.extract a i) (i - a - 1) (by rw [hz]; omega)
      rw [show i - a - 1 + 1 = i - a by omega] at this
      rw [this, byteAt_ex s a i _ (by omega) h2, show a + (i - a - 1) = i - 1 by omega]
    rw [e]
    by_cases hb : byteAt s (i - 1) = 13
    · rw [if_pos ⟨by omega, by rw [hb]⟩, if_pos ⟨ha, hb⟩]
      apply bl_inj
      rw [bl_extract, bl_extract, bl_extract, List.drop_zero, List.take_drop, List.take_take]
      congr 1
      congr 1
      omega
    · rw [if_neg (fun h => hb (by simpa using h.2)), if_neg (fun h => hb h.2)]
  · rw [if_neg (fun h => by omega), if_neg (fun h => ha h.1)]
theorem end_j1 (s : ByteArray) (hs : s.size ≤ 1099511627776) (a i : Nat) (h1 : a ≤ i) (h2 : i ≤ s.size) :
    Ev (fun k => missiveref09_end.j1 k s (a : Int) (i : Int)) (((i + (if i < s.size then 1 else 0) : Nat) : Int), trimCR (s.extract a i)) := by
  refine Ev.step (fun k => by simp only [missiveref09_end.j1]; rfl) ?_
  rw [trimCR_ext s a i h1 h2]
  by_cases ha : a < i
  · refine ev_yes (by omega) ?_
    rw [wrap_down i (by omega) (by omega), bt_byteAt s (i - 1) (by omega)]
    refine ev_yes (by omega) (ev_yes (by omega) ?_)
    refine Ev.step (fun k => by simp only [missiveref09_end.j2]; rfl) ?_
    rw [wrap_down i (by omega) (by omega), wrap_up i (by omega), Int.toNat_natCast, Int.toNat_natCast, Int.toNat_natCast]
    by_cases hb : byteAt s (i - 1) = 13
    · rw [if_pos (show a < i ∧ byteAt s (i - 1) = 13 from ⟨ha, hb⟩), hb]
      refine ev_yes (by rfl) ?_
      by_cases hi : i < s.size
      · rw [if_pos hi]
        exact ev_yes (by omega) (ev_yes (by omega) (ev_yes (by omega) (ev_yes (by omega) (Ev.now _))))
      · rw [if_neg hi]
        exact ev_no (by omega) (ev_yes (by omega) (ev_yes (by omega) (ev_yes (by omega) (Ev.now _))))
    · rw [if_neg (show ¬ (a < i ∧ byteAt s (i - 1) = 13) from fun h => hb h.2)]
      refine ev_no (by rw [beq_iff_eq]; exact not_byte hb) ?_
      by_cases hi : i < s.size
      · rw [if_pos hi]
        exact ev_yes (by omega) (ev_yes (by omega) (ev_yes (by omega) (ev_yes (by omega) (Ev.now _))))
      · rw [if_neg hi]
        exact ev_no (by omega) (ev_yes (by omega) (ev_yes (by omega) (ev_yes (by omega) (Ev.now _))))
  · refine ev_no (by omega) ?_
    refine Ev.step (fun k => by simp only [missiveref09_end.j2]; rfl) ?_
    refine ev_no (by decide) ?_
    rw [if_neg (show ¬ (a < i ∧ byteAt s (i - 1) = 13) from fun h => ha h.1), wrap_up i (by omega), Int.toNat_natCast, Int.toNat_natCast]
    by_cases hi : i < s.size
    · rw [if_pos hi]
      exact ev_yes (by omega) (ev_yes (by omega) (ev_yes (by omega) (ev_yes (by omega) (Ev.now _))))
    · rw [if_neg hi]
      exact ev_no (by omega) (ev_yes (by omega) (ev_yes (by omega) (ev_yes (by omega) (Ev.now _))))
theorem lineAt_at (s : ByteArray) (a i : Nat) (h1 : a ≤ i) (h2 : i ≤ s.size) (hn : ∀ j, a ≤ j → j < i → byteAt s j ≠ 10) (hb : i < s.size → byteAt s i = 10) :
    lineAt s a = ⟨trimCR (s.extract a i), a, i + (if i < s.size then 1 else 0)⟩ := by
  have hX : (s.extract a s.size).size = s.size - a := by simp
  have hin : (10 : UInt8) ∉ (bl (s.extract a s.size)).take (i - a) := by
    intro h
    obtain ⟨j, hj, e⟩ := List.getElem_of_mem h
    rw [List.length_take, bl_length, hX] at hj
    have e1 : (bl (s.extract a s.size))[j]? = some 10 := by
      rw [List.getElem_take] at e
      rw [List.getElem?_eq_getElem (by rw [bl_length, hX]; omega), e]
    rw [byteAt_list _ j (by rw [hX]; omega), byteAt_ex s a s.size j (by omega) (Nat.le_refl _)] at e1
    exact hn (a + j) (by omega) (by omega) (Option.some.inj e1)
  unfold lineAt
  by_cases hi : i < s.size
  · have hc := cut_split' (s.extract a s.size) 10 (i - a) (by rw [hX]; omega) (by rw [byteAt_ex s a s.size _ (by omega) (Nat.le_refl _), show a + (i - a) = i by omega]; exact hb hi) hin
    have e : (s.extract a s.size).extract 0 (i - a) = s.extract a i := by
      apply bl_inj
      rw [bl_extract, bl_extract, bl_extract, List.drop_zero, List.take_drop, List.take_take]
      congr 1
      congr 1
      omega
    rw [hc, e]
    have hz : (s.extract a i).size = i - a := by simp; omega
    dsimp only
    rw [hz, if_pos rfl, if_pos hi, show a + (i - a) = i by omega]
  · have hc : cutAt (s.extract a s.size) 10 = (s.extract a s.size, ⟨#[]⟩, false) := by
      refine cutAt_not (fun h => hin ?_)
      rw [List.take_of_length_le (by rw [bl_length, hX]; omega)]
      exact h
    rw [hc]
    dsimp only
    obtain rfl : i = s.size := by omega
    rw [hX, if_neg (by decide), if_neg (by omega), show a + (s.size - a) = s.size by omega]
theorem end_l0 (s : ByteArray) (hs : s.size ≤ 1099511627776) (a : Nat) : ∀ (n i : Nat), i + n = s.size → a ≤ i → (∀ j, a ≤ j → j < i → byteAt s j ≠ 10) →
    Ev (fun k => missiveref09_end.l0 k s (a : Int) (i : Int)) (((lineAt s a).un : Int), (lineAt s a).con)
  | 0, i, hi, ha, hn => by
    refine Ev.step (fun k => by simp only [missiveref09_end.l0]; rfl) ?_
    refine ev_no (by omega) ?_
    rw [lineAt_at s a i ha (by omega) hn (fun h => by omega)]
    exact end_j1 s hs a i ha (by omega)
  | n + 1, i, hi, ha, hn => by
    refine Ev.step (fun k => by simp only [missiveref09_end.l0]; rfl) ?_
    rw [bt_byteAt s i (by omega), wrap_up i (by omega)]
    refine ev_yes (by omega) (ev_yes (by omega) ?_)
    by_cases hb : byteAt s i = 10
    · refine ev_yes (by rw [hb]; rfl) ?_
      rw [lineAt_at s a i ha (by omega) hn (fun _ => hb)]
      exact end_j1 s hs a i ha (by omega)
    · refine ev_no (not_byte hb) ?_
      refine end_l0 s hs a n (i + 1) (by omega) (by omega) (fun j h1 h2 => ?_)
      by_cases h : j = i
      · rw [h]; exact hb
      · exact hn j h1 (by omega)
theorem end_ev (s : ByteArray) (hs : s.size ≤ 1099511627776) (a : Nat) (h : a ≤ s.size) : Ev (fun k => missiveref09_end.f k s (a : Int)) (((lineAt s a).un : Int), (lineAt s a).con) := by
  unfold missiveref09_end.f
  exact end_l0 s hs a (s.size - a) a (by omega) (Nat.le_refl _) (fun j h1 h2 => by omega)
theorem lineAt_bd (s : ByteArray) (a : Nat) (h : a < s.size) : a < (lineAt s a).un ∧ (lineAt s a).un ≤ s.size ∧ a + (lineAt s a).con.size ≤ (lineAt s a).un := by
  have key : ∃ i, a ≤ i ∧ i ≤ s.size ∧ (∀ j, a ≤ j → j < i → byteAt s j ≠ 10) ∧ (i < s.size → byteAt s i = 10) := by
    have : ∀ n i, i + n = s.size → a ≤ i → (∀ j, a ≤ j → j < i → byteAt s j ≠ 10) → ∃ i, a ≤ i ∧ i ≤ s.size ∧ (∀ j, a ≤ j → j < i → byteAt s j ≠ 10) ∧ (i < s.size → byteAt s i = 10) := by
      intro n
      induction n with
      | zero => intro i hi ha hn; exact ⟨i, ha, by omega, hn, fun h => by omega⟩
      | succ n ih =>
        intro i hi ha hn
        by_cases hb : byteAt s i = 10
        · exact ⟨i, ha, by omega, hn, fun _ => hb⟩
        · refine ih (i + 1) (by omega) (by omega) (fun j h1 h2 => ?_)
          by_cases h : j = i
          · rw [h]; exact hb
          · exact hn j h1 (by omega)
    exact this (s.size - a) a (by omega) (Nat.le_refl _) (fun j h1 h2 => by omega)
  obtain ⟨i, h1, h2, h3, h4⟩ := key
  rw [lineAt_at s a i h1 h2 h3 h4]
  have hz : (trimCR (s.extract a i)).size ≤ i - a := by
    rw [trimCR_ext s a i h1 h2]
    split
    · simp; omega
    · simp; omega
  dsimp only
  by_cases hi : i < s.size
  · rw [if_pos hi]; omega
  · rw [if_neg hi]; omega
theorem colon_l0 (s : ByteArray) (hs : s.size ≤ 1099511627776) : ∀ (n i : Nat), i + n = s.size → (58 : UInt8) ∉ (bl s).take i →
    ∃ r : Int, Ev (fun k => missiveref09_colon.l0 k s (i : Int)) r ∧ ((r = -1 ∧ cutAt s 58 = (s, ⟨#[]⟩, false)) ∨ ∃ j : Nat, r = (j : Int) ∧ j < s.size ∧ cutAt s 58 = (s.extract 0 j, s.extract (j + 1) s.size, true))
  | 0, i, hi, hn => by
    refine ⟨-1, ?_, .inl ⟨rfl, ?_⟩⟩
    · refine Ev.step (fun k => by simp only [missiveref09_colon.l0]; rfl) ?_
      exact ev_no (by omega) (Ev.now _)
    · rw [List.take_of_length_le (by rw [bl_length]; omega)] at hn
      exact cutAt_not hn
  | n + 1, i, hi, hn => by
    by_cases hb : byteAt s i = 58
    · refine ⟨(i : Int), ?_, .inr ⟨i, rfl, by omega, cut_split' s 58 i (by omega) hb hn⟩⟩
      refine Ev.step (fun k => by simp only [missiveref09_colon.l0]; rfl) ?_
      rw [bt_byteAt s i (by omega)]
      exact ev_yes (by omega) (ev_yes (by omega) (ev_yes (by rw [hb]; rfl) (Ev.now _)))
    · obtain ⟨r, hr, hc⟩ := colon_l0 s hs n (i + 1) (by omega) (by
        rw [take_byteAt s i (by omega), List.mem_append]
        rintro (h | h)
        · exact hn h
        · exact hb (by simpa using h : 58 = byteAt s i).symm)
      refine ⟨r, ?_, hc⟩
      refine Ev.step (fun k => by simp only [missiveref09_colon.l0]; rfl) ?_
      rw [bt_byteAt s i (by omega), wrap_up i (by omega)]
      exact ev_yes (by omega) (ev_yes (by omega) (ev_no (not_byte hb) hr))
theorem colon_ev (s : ByteArray) (hs : s.size ≤ 1099511627776) : ∃ r : Int, Ev (fun k => missiveref09_colon.f k s) r ∧ ((r = -1 ∧ cutAt s 58 = (s, ⟨#[]⟩, false)) ∨ ∃ j : Nat, r = (j : Int) ∧ j < s.size ∧ cutAt s 58 = (s.extract 0 j, s.extract (j + 1) s.size, true)) :=
  colon_l0 s hs s.size 0 (by omega) (by simp)
theorem joinS_snoc (vs : List ByteArray) (t : ByteArray) : joinS (vs ++ [t]) = if vs = [] then t else (joinS vs ++ ⟨#[32]⟩) ++ t := by
  cases vs with
  | nil =>
    rw [if_pos rfl]
    unfold joinS
    simp [Lib.join_cons, Lib.joinTail]
  | cons x r =>
    rw [if_neg (by simp)]
    unfold joinS
    simp only [List.cons_append, List.map_cons, List.map_append, List.map_nil, Lib.join_cons]
    apply bl_inj
    rw [bl_append, bl_append, bl_mkB, bl_mkB]
    have e : Lib.joinTail [32] (r.map bl ++ [bl t]) = Lib.joinTail [32] (r.map bl) ++ [32] ++ bl t := by unfold Lib.joinTail; simp
    rw [e]
    show _ = (bl x ++ Lib.joinTail [32] (r.map bl)) ++ [32] ++ bl t
    simp
theorem joinS_empty (vs : List ByteArray) (h : ∀ v ∈ vs, v.size ≠ 0) : (joinS vs).size = 0 ↔ vs = [] := by
  constructor
  · intro h0
    rcases List.eq_nil_or_concat vs with rfl | ⟨ws, t, rfl⟩
    · rfl
    · rw [List.concat_eq_append, joinS_snoc] at h0
      have ht := h t (by simp)
      split at h0
      · exact absurd h0 ht
      · rw [ByteArray.size_append] at h0; omega
  · rintro rfl; rfl
structure InvR (s : ByteArray) (st : PS) : Prop where
  en : st.en ≤ s.size
  fl : st.fs.length ≤ 400
  ne : ∀ v ∈ st.vs, v.size ≠ 0
  jz : (joinS st.vs).size ≤ 2 * st.en
theorem nameless (l : ByteArray) (hl : 0 < l.size) (hb : blankB (byteAt l 0) = true) : (cutAt l 58).2.2 = false ∨ isNameB (cutAt l 58).1 = false := by
  by_cases h : (58 : UInt8) ∈ bl l
  · right
    obtain ⟨pre, post, e, hn⟩ := List.eq_append_cons_of_mem h
    rw [cutAt_cut e hn]
    dsimp only
    apply Bool.eq_false_iff.2
    intro hN
    have hv := name_vis hN
    have hd : bl l = byteAt l 0 :: (bl l).drop 1 := drop_byteAt l 0 hl
    cases pre with
    | nil =>
      unfold isNameB at hN
      simp [ByteArray.size] at hN
    | cons c pre =>
      rw [hd] at e
      have hc := (List.cons.inj e).1
      have := (hv c (by rw [bl_mkB]; simp)).1
      rw [← hc] at this
      unfold blankB at hb
      simp only [Bool.or_eq_true, beq_iff_eq] at hb
      rcases hb with hb | hb <;> (rw [hb] at this; exact absurd this (by decide))
  · left
    rw [cutAt_not h]
theorem rd_last (gs : List S35) (g : S35) : rd_T35 (gs ++ [g]) ((gs.length : Nat) : Int) = g := by
  rw [rd35 _ _ (by simp)]
  simp
theorem refparse_l0 (s : ByteArray) (hs : s.size ≤ 1048576) : ∀ (n : Nat) (st : PS) (K : Nat), s.size ≤ st.en + n → s.size < st.en + K → InvR s st →
    Ev (fun k => missiveref09_Parse.l0 k s (doneF st.fs st.vs) (st.en : Int)) (doneF (foldP st (linesAt s K st.en)).fs (foldP st (linesAt s K st.en)).vs, ((foldP st (linesAt s K st.en)).en : Int))
  | 0, st, K, h, hK, hI => by
    have := hI.en
    obtain ⟨K, rfl⟩ : ∃ m, K = m + 1 := ⟨K - 1, by omega⟩
    rw [linesAt, if_neg (by omega)]
    refine Ev.step (fun k => by simp only [missiveref09_Parse.l0]; rfl) ?_
    refine ev_no (by omega) (ev_done ?_)
    show (doneF st.fs st.vs, (s.size : Int)) = (doneF st.fs st.vs, (st.en : Int))
    rw [show st.en = s.size by omega]
  | n + 1, st, K, h, hK, hI => by
    have hen0 := hI.en
    obtain ⟨K, rfl⟩ : ∃ m, K = m + 1 := ⟨K - 1, by omega⟩
    by_cases hlt : st.en < s.size
    · rw [linesAt, if_pos hlt]
      have hbd := lineAt_bd s st.en hlt
      have hfl := hI.fl
      have hdl := doneF_length st.fs st.vs
      refine Ev.step (fun k => by simp only [missiveref09_Parse.l0]; rfl) ?_
      refine ev_yes (by omega) ?_
      refine Ev.bind (end_ev s (by omega) st.en (by omega)) ?_
      dsimp only
      have key : ∀ st', stepP st (lineAt s st.en) = (st', true) → st'.en = (lineAt s st.en).un → InvR s st' → ∀ fs', fs' = doneF st'.fs st'.vs →
          Ev (fun k => missiveref09_Parse.l0 k s fs' ((lineAt s st.en).un : Int)) (doneF (foldP st (lineAt s st.en :: linesAt s K (lineAt s st.en).un)).fs (foldP st (lineAt s st.en :: linesAt s K (lineAt s st.en).un)).vs, ((foldP st (lineAt s st.en :: linesAt s K (lineAt s st.en).un)).en : Int)) := by
        intro st' h1 h2 h3 fs' h4
        have e : foldP st (lineAt s st.en :: linesAt s K (lineAt s st.en).un) = foldP st' (linesAt s K (lineAt s st.en).un) := by
          show (if (stepP st (lineAt s st.en)).2 then _ else _) = _
          rw [h1, if_pos rfl]
        rw [e, ← h2, h4]
        exact refparse_l0 s hs n st' K (by omega) (by omega) h3
      have stop : ∀ st', stepP st (lineAt s st.en) = (st', false) → foldP st (lineAt s st.en :: linesAt s K (lineAt s st.en).un) = st' := by
        intro st' h1
        show (if (stepP st (lineAt s st.en)).2 then _ else _) = _
        rw [h1, if_neg (fun h => by cases h)]
      generalize hX : lineAt s st.en = x at *
      by_cases h0 : x.con.size = 0
      · have e1 : bl x.con = [] := by rw [← List.length_eq_zero_iff, bl_length]; exact h0
        have hst : stepP st x = (⟨st.fs, st.vs, x.un⟩, false) := by unfold stepP; rw [if_pos h0]
        rw [stop _ hst]
        exact ev_yes (by rw [toList_bl]; exact e1) (Ev.now _)
      · have e1 : ¬ bl x.con = [] := by rw [← List.length_eq_zero_iff, bl_length]; exact h0
        refine ev_no (by rw [toList_bl]; exact e1) (ev_yes (by omega) ?_)
        have hb0 : bt x.con 0 = ((byteAt x.con 0).toNat : Int) := by
          have := bt_byteAt x.con 0 (by omega)
          simpa using this
        rw [hb0, rwhite_at]
        simp only [Option.bind_some]
        by_cases hw : blankB (byteAt x.con 0) = true
        · refine ev_yes hw ?_
          by_cases hz : st.fs = []
          · refine ev_yes (by rw [hdl, hz]; rfl) ?_
            have hst : stepP st x = (st, false) := by
              unfold stepP
              rw [if_neg h0, if_neg (fun hh => by rw [hz] at hh; exact absurd hh.2 (by simp)), if_pos]
              rcases nameless x.con (by omega) hw with h5 | h5
              · exact .inl h5
              · exact .inr (.inl h5)
            rw [stop _ hst]
            exact Ev.now _
          · have hpos : 0 < st.fs.length := List.length_pos_iff.2 hz
            refine ev_no (by rw [hdl]; omega) ?_
            refine Ev.bind (reftrim_ev x.con (by omega)) ?_
            have hst : stepP st x = (⟨st.fs, addV st.vs x.con, x.un⟩, true) := by
              unfold stepP
              rw [if_neg h0, if_pos ⟨hw, hpos⟩]
            have htz := trim_size x.con
            rcases List.eq_nil_or_concat st.fs with h6 | ⟨gs, g, h6⟩
            · exact absurd h6 hz
            rw [List.concat_eq_append] at h6
            have hdl2 : (doneF st.fs st.vs).length = gs.length + 1 := by rw [hdl, h6]; simp
            have hw1 : wrap64 (((doneF st.fs st.vs).length : Int) - 1) = ((gs.length : Nat) : Int) := by rw [hdl2, wrap_down _ (by omega) (by omega)]; rfl
            have hrd : rd_T35 (doneF st.fs st.vs) ((gs.length : Nat) : Int) = ⟨g.f0, joinS st.vs⟩ := by rw [h6, doneF_snoc, rd_last]
            have hjz := hI.jz
            have hen := hI.en
            by_cases ht : (trimS x.con).size = 0
            · have e2 : bl (trimS x.con) = [] := by rw [← List.length_eq_zero_iff, bl_length]; exact ht
              refine ev_yes (by rw [toList_bl]; exact e2) ?_
              refine Ev.step (fun k => by simp only [missiveref09_Parse.j1]; rfl) ?_
              refine ev_no (by decide) (ev_yes (by rw [toList_bl]; exact e2) ?_)
              have ha : addV st.vs x.con = st.vs := by unfold addV; rw [if_pos ht]
              refine key _ hst rfl ⟨hbd.2.1, hfl, ?_, ?_⟩ _ ?_
              · dsimp only; rw [ha]; exact hI.ne
              · dsimp only; rw [ha]; omega
              · dsimp only; rw [ha]
            · have e2 : ¬ bl (trimS x.con) = [] := by rw [← List.length_eq_zero_iff, bl_length]; exact ht
              have ha : addV st.vs x.con = st.vs ++ [trimS x.con] := by unfold addV; rw [if_neg ht]
              have hinv : ∀ J, joinS (st.vs ++ [trimS x.con]) = J → J.size ≤ 2 * x.un → InvR s ⟨st.fs, addV st.vs x.con, x.un⟩ := fun J hJ hJz => by
                refine ⟨hbd.2.1, hfl, ?_, ?_⟩
                · dsimp only
                  rw [ha]
                  intro v hv
                  rw [List.mem_append] at hv
                  rcases hv with hv | hv
                  · exact hI.ne v hv
                  · obtain rfl : v = _ := List.mem_singleton.1 hv
                    exact ht
                · dsimp only
                  rw [ha, hJ]
                  exact hJz
              refine ev_no (by rw [toList_bl]; exact e2) ?_
              rw [hw1]
              refine ev_yes (by omega) (ev_yes (by rw [hdl2]; omega) ?_)
              rw [hrd]
              refine Ev.step (fun k => by simp only [missiveref09_Parse.j1]; rfl) ?_
              rw [hw1, hrd, Int.toNat_natCast]
              dsimp only
              have hset : ∀ J, (doneF st.fs st.vs).set gs.length ⟨g.f0, J⟩ = gs ++ [⟨g.f0, J⟩] := fun J => by
                rw [h6, doneF_snoc]
                simp
              by_cases hv : st.vs = []
              · have e3 : bl (joinS st.vs) = [] := by rw [← List.length_eq_zero_iff, bl_length]; exact (joinS_empty _ hI.ne).2 hv
                refine ev_no (by rw [toList_bl, e3]; decide) ?_
                refine ev_no (by rw [toList_bl]; exact e2) (ev_yes (by omega) (ev_yes (by rw [hdl2]; omega) ?_))
                have hJ : joinS (st.vs ++ [trimS x.con]) = trimS x.con := by rw [joinS_snoc, if_pos hv]
                refine key _ hst rfl (hinv _ hJ (by omega)) _ ?_
                rw [hset]
                dsimp only
                rw [ha, h6, doneF_snoc, hJ]
              · have e3 : ¬ bl (joinS st.vs) = [] := by rw [← List.length_eq_zero_iff, bl_length]; exact fun h => hv ((joinS_empty _ hI.ne).1 h)
                have hJ : joinS (st.vs ++ [trimS x.con]) = (joinS st.vs ++ ⟨#[32]⟩) ++ trimS x.con := by rw [joinS_snoc, if_neg hv]
                have z1 : (joinS st.vs ++ (⟨#[32]⟩ : ByteArray)).size = (joinS st.vs).size + 1 := by rw [ByteArray.size_append]; rfl
                have z2 : ((joinS st.vs ++ (⟨#[32]⟩ : ByteArray)) ++ trimS x.con).size = (joinS st.vs).size + 1 + (trimS x.con).size := by rw [ByteArray.size_append, z1]
                refine ev_yes (by rw [toList_bl, bne_iff_ne]; exact e3) (ev_yes (by omega) (ev_yes (by rw [hdl2]; omega) (ev_yes (by omega) (ev_yes (by rw [z1]; omega) (ev_no ?_ ?_)))))
                · rw [toList_bl, ← List.length_eq_zero_iff, bl_length, z2]; omega
                · refine key _ hst rfl (hinv _ hJ (by rw [z2]; omega)) _ ?_
                  rw [hset]
                  dsimp only
                  rw [ha, h6, doneF_snoc, hJ]
        · refine ev_no hw ?_
          obtain ⟨r, hr, hc⟩ := colon_ev x.con (by omega)
          refine Ev.bind hr ?_
          have jd : ∀ r : Int, stepP st x = (st, false) → Ev (fun k => missiveref09_Parse.j2 k s (doneF st.fs st.vs) (st.en : Int) (x.un : Int) x.con r true) (doneF (foldP st (x :: linesAt s K x.un)).fs (foldP st (x :: linesAt s K x.un)).vs, ((foldP st (x :: linesAt s K x.un)).en : Int)) := by
            intro r hst
            rw [stop _ hst]
            refine Ev.step (fun k => by simp only [missiveref09_Parse.j2]; rfl) ?_
            exact ev_yes (by trivial) (Ev.now _)
          have nb : ¬ (blankB (byteAt x.con 0) = true ∧ 0 < st.fs.length) := fun hh => hw hh.1
          rcases hc with ⟨rfl, hc⟩ | ⟨j, rfl, hj, hc⟩
          · refine ev_yes (by decide) (jd _ ?_)
            unfold stepP
            rw [if_neg h0, if_neg nb, hc, if_pos (.inl rfl)]
          · refine ev_no (by omega) ?_
            by_cases h4 : 400 ≤ st.fs.length
            · rw [show decide (((doneF st.fs st.vs).length : Int) ≥ 400) = true by rw [hdl]; simp; omega]
              refine jd _ ?_
              unfold stepP
              rw [if_neg h0, if_neg nb, if_pos (.inr (.inr h4))]
            · rw [show decide (((doneF st.fs st.vs).length : Int) ≥ 400) = false by rw [hdl]; simp; omega]
              refine Ev.step (fun k => by simp only [missiveref09_Parse.j2]; rfl) ?_
              rw [wrap_up j (by omega), Int.toNat_natCast, Int.toNat_natCast]
              refine ev_no (by decide) (ev_yes (by omega) (ev_yes (by omega) ?_))
              refine Ev.bind (named_ev _ (by simp; omega)) ?_
              by_cases hN : isNameB (x.con.extract 0 j) = true
              · refine ev_yes hN (ev_yes (by omega) (ev_yes (by omega) ?_))
                refine Ev.bind (reftrim_ev _ (by simp; omega)) (ev_yes (by rw [hdl]; omega) ?_)
                have hst : stepP st x = (⟨doneF st.fs st.vs ++ [⟨x.con.extract 0 j, ⟨#[]⟩⟩], addV [] (x.con.extract (j + 1) x.con.size), x.un⟩, true) := by
                  unfold stepP
                  rw [if_neg h0, if_neg nb, hc, if_neg]
                  rintro (h5 | h5 | h5)
                  · cases h5
                  · exact absurd (hN.symm.trans h5) (by decide)
                  · exact h4 h5
                have hJ : joinS (addV [] (x.con.extract (j + 1) x.con.size)) = trimS (x.con.extract (j + 1) x.con.size) := by
                  unfold addV
                  split
                  · rename_i h7
                    apply bl_inj
                    have : bl (trimS (x.con.extract (j + 1) x.con.size)) = [] := by rw [← List.length_eq_zero_iff, bl_length]; exact h7
                    rw [this]
                    rfl
                  · rw [joinS_snoc, if_pos rfl]
                refine key _ hst rfl ⟨hbd.2.1, ?_, ?_, ?_⟩ _ ?_
                · dsimp only; rw [List.length_append, hdl]; simp; omega
                · dsimp only
                  unfold addV
                  split
                  · intro v hv; simp at hv
                  · rename_i h7
                    intro v hv
                    obtain rfl : v = _ := by simpa using hv
                    exact h7
                · dsimp only
                  rw [hJ]
                  have := trim_size (x.con.extract (j + 1) x.con.size)
                  have h8 : (x.con.extract (j + 1) x.con.size).size ≤ x.con.size := by simp
                  omega
                · dsimp only
                  rw [doneF_snoc, hJ]
              · refine ev_no hN ?_
                have hst : stepP st x = (st, false) := by
                  unfold stepP
                  rw [if_neg h0, if_neg nb, hc, if_pos (.inr (.inl (by simpa using hN)))]
                rw [stop _ hst]
                exact Ev.now _
    · have := hI.en
      rw [linesAt, if_neg hlt]
      refine Ev.step (fun k => by simp only [missiveref09_Parse.l0]; rfl) ?_
      refine ev_no (by omega) (ev_done ?_)
      show (doneF st.fs st.vs, (s.size : Int)) = (doneF st.fs st.vs, (st.en : Int))
      rw [show st.en = s.size by omega]
theorem refparse_ev (s : ByteArray) (hs : s.size ≤ 1048576) : Ev (fun k => missiveref09_Parse.f k s) ((parseS s).1, ((parseS s).2 : Int)) := by
  have h := refparse_l0 s hs s.size ⟨[], [], 0⟩ (s.size + 1) (by dsimp only; omega) (by dsimp only; omega) ⟨Nat.zero_le _, by simp, fun v hv => by simp at hv, Nat.le_refl _⟩
  exact h
end Go.Proofs.YtieompfmhnpnaaaGreat.H
end
section
namespace Go.Proofs.YtieompfmhnpnaaaGreat.H
open Go.RowKit Go.Proofs.YtieompfmhnpnaaaGreatW.PrintWords Go.Proofs.YtieompfmhnpnaaaGreatW.PrintLast Go.Proofs.YtieompfmhnpnaaaGreatW.PrintMore
attribute [local go_sem] max2_int min2_int max_two min_two max_three min_three max_four min_four
set_option linter.unusedVariables false
set_option linter.unusedSimpArgs false
mutual
def missiveref09_place.l0 : Nat → ByteArray → Int → Int → Option (Int)
  | 0, _, _, _ => none
  | k + 1, x0, x1, x5 => if x5 > x1 then ((missiveref09_Fold.f x0 x5).bind fun t313 => (if t313 = true then (some x5) else (missiveref09_place.l0 k x0 x1 (wrap64 (x5 - 1))))) else (missiveref09_place.l1 k x0 (mx 79 (wrap64 (x1 + 1))))
def missiveref09_place.l1 : Nat → ByteArray → Int → Option (Int)
  | 0, _, _ => none
  | k + 1, x0, x6 => if x6 ≤ 998 then ((missiveref09_Fold.f x0 x6).bind fun t314 => (if t314 = true then (some x6) else (missiveref09_place.l1 k x0 (wrap64 (x6 + 1))))) else (some (-1))
end
def missiveref09_place.f (k : Nat) (a0 : ByteArray) (a1 : Int) : Option (Int) := missiveref09_place.l0 k a0 a1 78
theorem missiveref09_place.mono_l : ∀ k, (∀ y0 y1 y2, LeO (missiveref09_place.l0 k y0 y1 y2) (missiveref09_place.l0 (k + 1) y0 y1 y2)) ∧ (∀ y0 y1, LeO (missiveref09_place.l1 k y0 y1) (missiveref09_place.l1 (k + 1) y0 y1))
  | 0 => ⟨fun _ _ _ r h => by simp [missiveref09_place.l0] at h, fun _ _ r h => by simp [missiveref09_place.l1] at h⟩
  | k + 1 => by
    obtain ⟨ih0, ih1⟩ := missiveref09_place.mono_l k
    refine ⟨?_, ?_⟩
    · intro y0 y1 y2
      unfold missiveref09_place.l0
      repeat' first
      | (with_reducible exact ih0 _ _ _)
      | (with_reducible exact ih1 _ _)
      | (with_reducible exact LeO.refl _)
      | (with_reducible exact LeO.none _)
      | (with_reducible refine LeO.ite ?_ ?_)
      | (with_reducible refine LeO.bind ?_ (fun _ => ?_))
      | exact ih0 _ _ _
      | exact ih1 _ _
      | exact LeO.none _
      | refine LeO.ite ?_ ?_
      | refine LeO.bind ?_ (fun _ => ?_)
    · intro y0 y1
      unfold missiveref09_place.l1
      repeat' first
      | (with_reducible exact ih0 _ _ _)
      | (with_reducible exact ih1 _ _)
      | (with_reducible exact LeO.refl _)
      | (with_reducible exact LeO.none _)
      | (with_reducible refine LeO.ite ?_ ?_)
      | (with_reducible refine LeO.bind ?_ (fun _ => ?_))
      | exact ih0 _ _ _
      | exact ih1 _ _
      | exact LeO.none _
      | refine LeO.ite ?_ ?_
      | refine LeO.bind ?_ (fun _ => ?_)
theorem missiveref09_place.mono : ∀ a0 a1 k, LeO (missiveref09_place.f k a0 a1) (missiveref09_place.f (k + 1) a0 a1) := by
  intro a0 a1 k
  obtain ⟨ih0, ih1⟩ := missiveref09_place.mono_l k
  unfold missiveref09_place.f
  repeat' first
      | (with_reducible exact ih0 _ _ _)
      | (with_reducible exact ih1 _ _)
      | (with_reducible exact LeO.refl _)
      | (with_reducible exact LeO.none _)
      | (with_reducible refine LeO.ite ?_ ?_)
      | (with_reducible refine LeO.bind ?_ (fun _ => ?_))
      | exact ih0 _ _ _
      | exact ih1 _ _
      | exact LeO.none _
      | refine LeO.ite ?_ ?_
      | refine LeO.bind ?_ (fun _ => ?_)
set_option maxHeartbeats 8000000 in
set_option maxRecDepth 100000 in
theorem missiveref09_place.calls (k : Nat) (a0 : ByteArray) (a1 : Int) (r : Int) (w : World) (h : missiveref09_place.f k a0 a1 = some r) :
    Calls Tryz.prog 88 #[.string a0, .int .i64 a1] w fun e w' => e = .returned (.int .i64 r) ∧ Below w.heap.size w w' := by
  have HB := Aside0.mk (Below.refl w.heap.size w)
  have H : (missiveref09_place.l0 k a0 a1 78) = some r := h
  clear h
  have H' := Aside0.mk H
  clear H
  go_enter Tryz.func88, Tryz.ntmps88
  go_wp2
  go_loopg [5] k (fun kq v5 w' => ∃ (x5_1 : Int), v5 = .int .i64 x5_1 ∧ Aside0 (missiveref09_place.l0 kq a0 a1 x5_1 = some r) ∧ Aside0 (kq ≤ k) ∧ Aside0 (Below w.heap.size w w'))
  case atStart => exact ⟨(78), (by first | rfl | (simp; done) | (simp [*]; done)), H', ⟨Nat.le_refl _⟩, ⟨by repeat (first | (with_reducible first | exact HB.out | apply below_alloc | apply pw_below_drewN | apply below_drew1) | exact HB.out)⟩⟩
  case round =>
    clear H'
    try clear p2
    obtain ⟨x5_1, rfl, HA, HK1, HB⟩ := hrel
    cases gk with
    | zero => exact absurd HA.out (by simp [missiveref09_place.l0])
    | succ k1 =>
      have H := HA.out
      clear HA
      simp only [missiveref09_place.l0] at H
      by_cases c3 : x5_1 > a1
      · rw [if_pos c3] at H
        have c3b0 : decide (a1 < x5_1) = true := decide_eq_true c3
        clear c3
        replace H := Option.bind_eq_some_iff.mp H
        obtain ⟨t313, A40, H⟩ := H
        replace H : (if t313 = true then (some x5_1) else (missiveref09_place.l0 k1 a0 a1 (wrap64 (x5_1 - 1)))) = some r := H
        have A4 := Aside0.mk A40
        clear A40
        by_cases c5 : t313 = true
        · subst c5
          have H1 : (some x5_1) = some r := by rw [if_pos rfl] at H; exact H
          clear H
          have H := H1
          clear H1
          obtain rfl := Option.some.inj H
          go_wp2_with (first | ((with_reducible refine gate_callee (f := 26) rfl ?_); refine goesL_ (some 14) rfl rfl Tryz.func26 (by kernel_rfl) rfl #[.string a0, .int .i64 x5_1] rfl (by (try simp only [List.map_toArray, List.map_cons, List.map_nil]); first | done | rfl | (simp only [List.length_drop, List.length_take]; rfl)) ?_; (with_reducible refine (missiveref09_Fold.calls a0 x5_1 true _ A4.out).mono ?_); rintro e w' ⟨rfl, ⟨nd, rfl⟩⟩; refine ⟨_, rfl, ?_⟩))
          go_ret
          exact ⟨by first | rfl | (simp [errW_none, errW_some]; done) | (simp [errW_none, errW_some]; exact isEmpty_nbne _) | (simp [errW_none, errW_some]; exact isEmpty_bne _) | (simp [errW_none, errW_some] <;> rfl) | (simp [*, errW_none, errW_some] <;> rfl), by repeat (first | (with_reducible first | exact HB.out | apply below_alloc | apply pw_below_drewN | apply below_drew1) | exact HB.out)⟩
        · replace c5 := Bool.eq_false_iff.mpr c5
          subst c5
          have H1 : (missiveref09_place.l0 k1 a0 a1 (wrap64 (x5_1 - 1))) = some r := by rw [if_neg (show ¬ (false = true) by decide)] at H; exact H
          clear H
          have H := H1
          clear H1
          have H' := Aside0.mk H
          clear H
          go_wp2_with (first | ((with_reducible refine gate_callee (f := 26) rfl ?_); refine goesL_ (some 14) rfl rfl Tryz.func26 (by kernel_rfl) rfl #[.string a0, .int .i64 x5_1] rfl (by (try simp only [List.map_toArray, List.map_cons, List.map_nil]); first | done | rfl | (simp only [List.length_drop, List.length_take]; rfl)) ?_; (with_reducible refine (missiveref09_Fold.calls a0 x5_1 false _ A4.out).mono ?_); rintro e w' ⟨rfl, ⟨nd, rfl⟩⟩; refine ⟨_, rfl, ?_⟩))
          go_roundg k1
          case measure => have := HK1.out; omega
          case rel => exact ⟨(wrap64 (x5_1 - 1)), (by first | rfl | (simp; done) | (simp [*]; done)), H', ⟨by have := HK1.out; omega⟩, ⟨by repeat (first | (with_reducible first | exact HB.out | apply below_alloc | apply pw_below_drewN | apply below_drew1) | exact HB.out)⟩⟩
      · rw [if_neg c3] at H
        have c3b0 : decide (a1 < x5_1) = false := decide_eq_false c3
        clear c3
        obtain ⟨ji6, hji6⟩ : ∃ j_ : Int, (mx 79 (wrap64 (a1 + 1))) = j_ := ⟨_, rfl⟩
        replace H : (missiveref09_place.l1 k1 a0 ji6) = some r := by first | (rw [hji6] at H; exact H) | (simp only [hji6] at H ⊢; exact H)
        have hji6_ : (if 79 < (wrap64 (a1 + 1)) then (wrap64 (a1 + 1)) else 79) = ji6 := hji6
        have H' := Aside0.mk H
        clear H
        go_wp2
        go_loopg [6] k1 (fun kq v6 w' => ∃ (x6_2 : Int), v6 = .int .i64 x6_2 ∧ Aside0 (missiveref09_place.l1 kq a0 x6_2 = some r) ∧ Aside0 (kq ≤ k1) ∧ Aside0 (Below w.heap.size w w'))
        case atStart => exact ⟨(ji6), (by first | rfl | (simp; done) | (simp only [← hji6] <;> (first | rfl | simp)) | (simp [*]; done)), H', ⟨Nat.le_refl _⟩, ⟨by repeat (first | (with_reducible first | exact HB.out | apply below_alloc | apply pw_below_drewN | apply below_drew1) | exact HB.out)⟩⟩
        case round =>
          clear H'
          try clear c2
          try clear p2
          try clear c3
          try clear c3b0
          try clear c5
          try clear p6
          try clear p2
          obtain ⟨x6_2, rfl, HA, HK2, HB⟩ := hrel
          cases gk with
          | zero => exact absurd HA.out (by simp [missiveref09_place.l1])
          | succ k2 =>
            have H := HA.out
            clear HA
            simp only [missiveref09_place.l1] at H
            by_cases c7 : x6_2 ≤ 998
            · rw [if_pos c7] at H
              have c7b0 : decide (x6_2 ≤ 998) = true := decide_eq_true c7
              clear c7
              replace H := Option.bind_eq_some_iff.mp H
              obtain ⟨t314, A80, H⟩ := H
              replace H : (if t314 = true then (some x6_2) else (missiveref09_place.l1 k2 a0 (wrap64 (x6_2 + 1)))) = some r := H
              have A8 := Aside0.mk A80
              clear A80
              by_cases c9 : t314 = true
              · subst c9
                have H1 : (some x6_2) = some r := by rw [if_pos rfl] at H; exact H
                clear H
                have H := H1
                clear H1
                obtain rfl := Option.some.inj H
                go_wp2_with (first | ((with_reducible refine gate_callee (f := 26) rfl ?_); refine goesL_ (some 25) rfl rfl Tryz.func26 (by kernel_rfl) rfl #[.string a0, .int .i64 x6_2] rfl (by (try simp only [List.map_toArray, List.map_cons, List.map_nil]); first | done | rfl | (simp only [List.length_drop, List.length_take]; rfl)) ?_; (with_reducible refine (missiveref09_Fold.calls a0 x6_2 true _ A8.out).mono ?_); rintro e w' ⟨rfl, ⟨nd, rfl⟩⟩; refine ⟨_, rfl, ?_⟩))
                go_ret
                exact ⟨by first | rfl | (simp [errW_none, errW_some]; done) | (simp [errW_none, errW_some]; exact isEmpty_nbne _) | (simp [errW_none, errW_some]; exact isEmpty_bne _) | (simp [errW_none, errW_some] <;> rfl) | (simp only [← hji6]; first | rfl | (simp [errW_none, errW_some] <;> rfl)) | (simp [*, errW_none, errW_some] <;> rfl), by repeat (first | (with_reducible first | exact HB.out | apply below_alloc | apply pw_below_drewN | apply below_drew1) | exact HB.out)⟩
              · replace c9 := Bool.eq_false_iff.mpr c9
                subst c9
                have H1 : (missiveref09_place.l1 k2 a0 (wrap64 (x6_2 + 1))) = some r := by rw [if_neg (show ¬ (false = true) by decide)] at H; exact H
                clear H
                have H := H1
                clear H1
                have H' := Aside0.mk H
                clear H
                go_wp2_with (first | ((with_reducible refine gate_callee (f := 26) rfl ?_); refine goesL_ (some 25) rfl rfl Tryz.func26 (by kernel_rfl) rfl #[.string a0, .int .i64 x6_2] rfl (by (try simp only [List.map_toArray, List.map_cons, List.map_nil]); first | done | rfl | (simp only [List.length_drop, List.length_take]; rfl)) ?_; (with_reducible refine (missiveref09_Fold.calls a0 x6_2 false _ A8.out).mono ?_); rintro e w' ⟨rfl, ⟨nd, rfl⟩⟩; refine ⟨_, rfl, ?_⟩))
                go_roundg k2
                case measure => have := HK1.out; have := HK2.out; omega
                case rel => exact ⟨(wrap64 (x6_2 + 1)), (by first | rfl | (simp; done) | (simp [*]; done)), H', ⟨by have := HK1.out; have := HK2.out; omega⟩, ⟨by repeat (first | (with_reducible first | exact HB.out | apply below_alloc | apply pw_below_drewN | apply below_drew1) | exact HB.out)⟩⟩
            · rw [if_neg c7] at H
              have c7b0 : decide (x6_2 ≤ 998) = false := decide_eq_false c7
              clear c7
              obtain rfl := Option.some.inj H
              go_wp2
              go_ret
              exact ⟨by first | rfl | (simp [errW_none, errW_some]; done) | (simp [errW_none, errW_some]; exact isEmpty_nbne _) | (simp [errW_none, errW_some]; exact isEmpty_bne _) | (simp [errW_none, errW_some] <;> rfl) | (simp only [← hji6]; first | rfl | (simp [errW_none, errW_some] <;> rfl)) | (simp [*, errW_none, errW_some] <;> rfl), by repeat (first | (with_reducible first | exact HB.out | apply below_alloc | apply pw_below_drewN | apply below_drew1) | exact HB.out)⟩
end Go.Proofs.YtieompfmhnpnaaaGreat.H
end
section
namespace Go.Proofs.YtieompfmhnpnaaaGreat.H
open Go.RowKit Go.Proofs.YtieompfmhnpnaaaGreatW.PrintWords Go.Proofs.YtieompfmhnpnaaaGreatW.PrintLast Go.Proofs.YtieompfmhnpnaaaGreatW.PrintMore
set_option linter.unusedVariables false
set_option linter.unusedSimpArgs false
theorem downTo_le' (p : Nat → Bool) (lo : Nat) : ∀ n m, m ≤ n → (∀ i, m < i → i ≤ n → p i = false) → downTo p lo n = downTo p lo m
  | 0, m, h, _ => by rw [show m = 0 by omega]
  | n + 1, m, h, hp => by
    by_cases he : m = n + 1
    · rw [he]
    · by_cases hl : n + 1 ≤ lo
      · rw [downTo_low p lo _ hl, downTo_low p lo _ (by omega)]
      · rw [downTo_no p lo (n + 1) (by omega) (hp _ (by omega) (by omega))]
        exact downTo_le' p lo n m (by omega) (fun i h1 h2 => hp i h1 (by omega))
theorem downTo_congr (p q : Nat → Bool) (lo : Nat) : ∀ n, (∀ i, lo < i → i ≤ n → p i = q i) → downTo p lo n = downTo q lo n
  | 0, _ => rfl
  | n + 1, h => by
    unfold downTo
    split
    · rfl
    · rw [h (n + 1) (by omega) (Nat.le_refl _), downTo_congr p q lo n (fun i h1 h2 => h i h1 (by omega))]
theorem upTo_congr (p q : Nat → Bool) : ∀ f i, (∀ j, i ≤ j → j < i + f → p j = q j) → upTo p i f = upTo q i f
  | 0, _, _ => rfl
  | f + 1, i, h => by
    unfold upTo
    rw [h i (Nat.le_refl _) (by omega), upTo_congr p q f (i + 1) (fun j h1 h2 => h j (by omega) (by omega))]
theorem upTo_false (p : Nat → Bool) : ∀ f i, (∀ j, i ≤ j → j < i + f → p j = false) → upTo p i f = 0
  | 0, _, _ => rfl
  | f + 1, i, h => by
    unfold upTo
    rw [h i (Nat.le_refl _) (by omega), upTo_false p f (i + 1) (fun j h1 h2 => h j (by omega) (by omega))]
    rfl
theorem upTo_more (p : Nat → Bool) : ∀ g i f, (∀ j, i + g ≤ j → j < i + g + f → p j = false) → 0 < i → upTo p i (g + f) = upTo p i g
  | 0, i, f, h, _ => by
    rw [Nat.zero_add]
    show upTo p i f = 0
    exact upTo_false p f i (fun j h1 h2 => h j h1 h2)
  | g + 1, i, f, h, hi => by
    rw [show g + 1 + f = (g + f) + 1 by omega]
    unfold upTo
    rw [upTo_more p g (i + 1) f (fun j h1 h2 => h j (by omega) (by omega)) (by omega)]
def placeI (s : ByteArray) (b : Nat) : Int := if 0 < foldAtS s b then (foldAtS s b : Int) else -1
theorem foldAt_foldB (s : ByteArray) (b : Nat) (h78 : 78 < s.size) : foldAtS s b = if downTo (foldB s) b 78 = 0 then upTo (foldB s) (max 78 b + 1) (998 - max 78 b) else downTo (foldB s) b 78 := by
  unfold foldAtS
  dsimp only
  have e1 : downTo (isFoldB s) b (min 78 (min 998 (s.size - 2))) = downTo (foldB s) b 78 := by
    rw [downTo_le' (foldB s) b 78 (min 78 (min 998 (s.size - 2))) (by omega) (fun i h1 h2 => by unfold foldB; rw [show decide (i + 1 < s.size) = false by simp; omega]; simp)]
    refine downTo_congr _ _ b _ (fun i h1 h2 => ?_)
    unfold foldB
    rw [show decide (1 ≤ i) = true by simp; omega, show decide (i + 1 < s.size) = true by simp; omega]
    rfl
  rw [e1]
  have e2 : upTo (isFoldB s) (max 78 b + 1) (min 998 (s.size - 2) - max 78 b) = upTo (foldB s) (max 78 b + 1) (998 - max 78 b) := by
    rw [show 998 - max 78 b = (min 998 (s.size - 2) - max 78 b) + ((998 - max 78 b) - (min 998 (s.size - 2) - max 78 b)) by omega]
    rw [upTo_more (foldB s) _ _ _ (fun j h1 h2 => by unfold foldB; rw [show decide (j + 1 < s.size) = false by simp; omega]; simp) (by omega)]
    refine upTo_congr _ _ _ _ (fun j h1 h2 => ?_)
    unfold foldB
    rw [show decide (1 ≤ j) = true by simp; omega, show decide (j + 1 < s.size) = true by simp; omega]
    rfl
  rw [e2]
theorem place_l1 (s : ByteArray) (hs : s.size ≤ 1099511627776) : ∀ (f i : Nat), i + f = 999 → 1 ≤ i →
    Ev (fun k => missiveref09_place.l1 k s (i : Int)) (if 0 < upTo (foldB s) i f then ((upTo (foldB s) i f : Nat) : Int) else -1)
  | 0, i, hi, h1 => by
    refine Ev.step (fun k => by simp only [missiveref09_place.l1]; rfl) ?_
    refine ev_no (by omega) ?_
    exact Ev.now _
  | f + 1, i, hi, h1 => by
    refine Ev.step (fun k => by simp only [missiveref09_place.l1]; rfl) ?_
    refine ev_yes (by omega) ?_
    rw [fold_any s i hs (by omega) h1, wrap_up i (by omega)]
    simp only [Option.bind_some]
    unfold upTo
    by_cases h : foldB s i = true
    · rw [if_pos h, if_pos (by omega)]
      exact ev_yes h (Ev.now _)
    · rw [if_neg h]
      exact ev_no h (place_l1 s hs f (i + 1) (by omega) (by omega))
theorem place_l0 (s : ByteArray) (hs : s.size ≤ 1099511627776) (b : Nat) (hb : b ≤ 998) (r : Int) (hr : Ev (fun k => missiveref09_place.l1 k s ((max 78 b + 1 : Nat) : Int)) r) : ∀ (i : Nat), i ≤ 78 →
    Ev (fun k => missiveref09_place.l0 k s (b : Int) (i : Int)) (if downTo (foldB s) b i = 0 then r else ((downTo (foldB s) b i : Nat) : Int))
  | 0, hi => by
    refine Ev.step (fun k => by simp only [missiveref09_place.l0]; rfl) ?_
    refine ev_no (by omega) ?_
    have e : mx 79 (wrap64 ((b : Int) + 1)) = ((max 78 b + 1 : Nat) : Int) := by rw [wrap_up b (by omega)]; unfold mx; omega
    rw [e]
    exact hr
  | i + 1, hi => by
    refine Ev.step (fun k => by simp only [missiveref09_place.l0]; rfl) ?_
    by_cases hl : b < i + 1
    · refine ev_yes (by omega) ?_
      rw [fold_any s (i + 1) hs (by omega) (by omega), wrap_down (i + 1) (by omega) (by omega)]
      simp only [Option.bind_some]
      by_cases h : foldB s (i + 1) = true
      · rw [downTo_yes _ _ _ hl h, if_neg (by omega)]
        exact ev_yes h (Ev.now _)
      · have h' : foldB s (i + 1) = false := by simpa using h
        rw [downTo_no _ _ _ hl h']
        exact ev_no h (place_l0 s hs b hb r hr i (by omega))
    · refine ev_no (by omega) ?_
      rw [downTo_low _ _ _ (by omega), if_pos rfl]
      have e : mx 79 (wrap64 ((b : Int) + 1)) = ((max 78 b + 1 : Nat) : Int) := by rw [wrap_up b (by omega)]; unfold mx; omega
      rw [e]
      exact hr
theorem place_ev (s : ByteArray) (hs : s.size ≤ 1099511627776) (h78 : 78 < s.size) (b : Nat) (hb : b ≤ 998) : Ev (fun k => missiveref09_place.f k s (b : Int)) (placeI s b) := by
  have h1 := place_l1 s hs (998 - max 78 b) (max 78 b + 1) (by omega) (by omega)
  have h0 := place_l0 s hs b hb _ h1 78 (Nat.le_refl _)
  unfold missiveref09_place.f
  have e : placeI s b = if downTo (foldB s) b 78 = 0 then (if 0 < upTo (foldB s) (max 78 b + 1) (998 - max 78 b) then ((upTo (foldB s) (max 78 b + 1) (998 - max 78 b) : Nat) : Int) else -1) else ((downTo (foldB s) b 78 : Nat) : Int) := by
    unfold placeI
    rw [foldAt_foldB s b h78]
    by_cases h : downTo (foldB s) b 78 = 0
    · rw [if_pos h, if_pos h]
    · rw [if_neg h, if_neg h, if_pos (by omega)]
  rw [e]
  exact h0
end Go.Proofs.YtieompfmhnpnaaaGreat.H
end
section
namespace Go.Proofs.YtieompfmhnpnaaaGreat.H
open Go.RowKit Go.Proofs.YtieompfmhnpnaaaGreatW.PrintWords Go.Proofs.YtieompfmhnpnaaaGreatW.PrintLast Go.Proofs.YtieompfmhnpnaaaGreatW.PrintMore
set_option linter.unusedVariables false
set_option linter.unusedSimpArgs false
def oneL (n v : ByteArray) : List UInt8 := foldL (lineS ⟨n, v⟩).size (lineS ⟨n, v⟩) (n.size + 1)
theorem one_snoc (v s3 : ByteArray) (k : Nat) (h : k < v.size) (c : UInt8) (hc : crlfB (byteAt v k) = c) (hs : bl s3 = ((bl v).take k).map crlfB) : bl (s3 ++ mkB [c]) = ((bl v).take (k + 1)).map crlfB := by
  rw [bl_append, hs, take_byteAt v k h, List.map_append, List.map_cons, List.map_nil, hc]
set_option maxHeartbeats 4000000 in
set_option maxRecDepth 100000 in
theorem one_calls (n v : ByteArray) (hn : n.size ≤ 997) (hv : v.size ≤ 1048576) (w : World) :
    Calls Tryz.prog 67 #[.agg #[.string n, .string v]] w fun e w' => e = .returned (.string (mkB (oneL n v))) ∧ Below w.heap.size w w' := by
  have hu35 := Tryz.underlying35
  have HB := Aside0.mk (Below.refl w.heap.size w)
  go_enter Tryz.func67, Tryz.ntmps67
  go_wp2_with (first | ((with_reducible refine gate_dst (N := 1) rfl ?_); (try (refine gate_guard (by rfl) ?_; dsimp only)); refine box_event ?hg (N := 1) ?hd (cs := #[.string n, .string v]) (t := 35) ?hr ?_; (case hd => rfl); (case hg => rfl); (case hr => first | (go_simp; done) | (go_simp; rfl)); intro gb315 hg w2 hbox hb; have n0_ := Aside0.mk (below_step (by repeat (first | (with_reducible first | exact HB.out | apply below_alloc | apply pw_below_drewN | apply below_drew1) | exact HB.out)) hb); have n1_ := Aside0.mk (hbox); clear HB; have HB := n0_; have BK315 := n1_; clear n0_ n1_; clear hb hbox hg))
  go_loopw [3, 4] (fun v3 v4 wr => ∃ (k : Nat) (s3 : ByteArray), k ≤ v.size ∧ v4 = .int .i64 k ∧ v3 = .string s3 ∧ s3.size ≤ k ∧ Aside0 (bl s3 = ((bl v).take k).map crlfB) ∧ Aside0 (wr.heap[gb315]? = some (.cells #[.string n, .string v] 35 (0, 0))) ∧ Aside0 (Below w.heap.size w wr)) (fun _ i _ => v.size - (intOf i).toNat)
  case atStart => exact ⟨0, ⟨#[]⟩, Nat.zero_le _, rfl, rfl, Nat.le_refl _, ⟨by simp [bl]⟩, BK315, HB⟩
  case round =>
    clear HB BK315
    obtain ⟨k, s3, hk, rfl, rfl, hs3, HS, BK315, HB⟩ := hrel
    have hcz_0 : wr.cell? ⟨gb315, 0, none⟩ = some (.string n) := (blk_cell BK315.out 0).trans rfl
    have hcz_1 : wr.cell? ⟨gb315, 1, none⟩ = some (.string v) := (blk_cell BK315.out 1).trans rfl
    have hfz_0 := blk_frozen BK315.out 0
    have hfz_1 := blk_frozen BK315.out 1
    by_cases hlt : k < v.size
    · have k0 := byteAt_get v k hlt
      have x1 : (9223372036854775807 < s3.size + 1) = False := eq_false (by omega)
      by_cases c13 : byteAt v k = 13
      · have HS' := Aside0.mk (one_snoc v s3 k hlt 32 (by rw [c13]; rfl) HS.out)
        have b1 : (((byteAt v k).toNat : Int) == 13) = true := by rw [c13]; rfl
        clear c13
        go_wp2
        go_roundw
        case rel => exact ⟨k + 1, s3 ++ mkB [32], by omega, by go_num, rfl, by rw [ByteArray.size_append, show (mkB [32]).size = 1 from rfl]; omega, HS', ⟨BK315.out⟩, ⟨HB.out⟩⟩
        case measure => simp [intOf]; omega
      · have b1 : (((byteAt v k).toNat : Int) == 13) = false := beq_eq_false_iff_ne.2 (not_byte c13)
        by_cases c10 : byteAt v k = 10
        · have HS' := Aside0.mk (one_snoc v s3 k hlt 32 (by rw [c10]; rfl) HS.out)
          have b2 : (((byteAt v k).toNat : Int) == 10) = true := by rw [c10]; rfl
          clear c13 c10
          go_wp2
          go_roundw
          case rel => exact ⟨k + 1, s3 ++ mkB [32], by omega, by go_num, rfl, by rw [ByteArray.size_append, show (mkB [32]).size = 1 from rfl]; omega, HS', ⟨BK315.out⟩, ⟨HB.out⟩⟩
          case measure => simp [intOf]; omega
        · have b2 : (((byteAt v k).toNat : Int) == 10) = false := beq_eq_false_iff_ne.2 (not_byte c10)
          have HX := Lib.hid (ext_one v k hlt)
          have HS' := Aside0.mk (one_snoc v s3 k hlt (byteAt v k) (by unfold crlfB; rw [if_neg (fun h => h.elim c13 c10)]) HS.out)
          have hes : (v.extract k (k + 1)).size = 1 := by rw [HX.out, mkB_size]; rfl
          have x2 : (9223372036854775807 < s3.size + (v.extract k (k + 1)).size) = False := eq_false (by omega)
          have HES := Lib.hid hes
          have p1 := eq_true (show (0 : Int) ≤ (k : Int) by omega)
          have p2 := eq_true (show (k : Int) ≤ (k : Int) + 1 by omega)
          have p3 := eq_true (show (k : Int) + 1 ≤ (v.size : Int) by omega)
          clear c13 c10 hes
          go_wp2
          go_roundw
          case rel => exact ⟨k + 1, s3 ++ v.extract k (k + 1), by omega, by go_num, rfl, by rw [ByteArray.size_append, HES.out]; omega, by rw [HX.out]; exact HS', ⟨BK315.out⟩, ⟨HB.out⟩⟩
          case measure => simp [intOf]; omega
    · have hkk : k = v.size := by omega
      have e3 : s3 = crlfS v := by
        apply bl_inj
        rw [HS.out, hkk, List.take_of_length_le (by rw [bl_length]; omega), bl_crlf]
      clear HS hs3 hlt hk
      subst hkk
      have hcl : (crlfS v).size = v.size := by rw [← bl_length, bl_crlf, List.length_map, bl_length]
      have hts : (trimS (crlfS v)).size ≤ v.size := by have := trim_size (crlfS v); omega
      obtain ⟨kt, hkt⟩ := (reftrim_ev (crlfS v) (by omega)).rounds
      have e0 : lineS ⟨n, v⟩ = if (trimS (crlfS v)).size = 0 then n ++ ⟨#[58]⟩ else ((n ++ ⟨#[58]⟩) ++ ⟨#[32]⟩) ++ trimS (crlfS v) := by
        unfold lineS
        split
        · rfl
        · exact ByteArray.append_assoc.symm
      rw [← e3] at hkt hts hcl e0
      clear e3
      generalize trimS s3 = t at *
      have HT := Aside0.mk hkt
      have E0 := Aside0.mk e0
      clear hkt hcl e0
      have x1 : (9223372036854775807 < n.size + 1) = False := eq_false (by omega)
      go_upto_if 44 with (first | ((with_reducible refine gate_callee (f := 45) rfl ?_); refine goesL_ (some 39) rfl rfl Tryz.func45 (by kernel_rfl) rfl #[.string s3] rfl (by (try simp only [List.map_toArray, List.map_cons, List.map_nil]); first | done | rfl | (simp only [List.length_drop, List.length_take]; rfl)) ?_; (with_reducible refine (missiveref01_Trim.calls kt s3 t _ HT.out).mono ?_); rintro e w' ⟨rfl, ⟨nd, rfl⟩⟩; refine ⟨_, rfl, ?_⟩))
      (try simp only [Act.put, List.setIfInBounds_toArray, List.set_cons_zero, List.set_cons_succ])
      go_cut [5] (fun v5 wc => v5 = .string (lineS ⟨n, v⟩) ∧ Aside0 (wc.heap[gb315]? = some (.cells #[.string n, .string v] 35 (0, 0))) ∧ Aside0 (Below w.heap.size w wc))
      case first =>
        by_cases h0 : t.size = 0
        · have e1 : t.toList.isEmpty = true := by rw [toList_bl, List.isEmpty_iff, ← List.length_eq_zero_iff, bl_length]; exact h0
          have e2 : (!t.toList.isEmpty) = false := by rw [e1]; rfl
          have e3 : (t.toList == ([] : List UInt8)) = true := by rw [beq_iff_eq, ← List.isEmpty_iff]; exact e1
          have e4 : (t.toList != ([] : List UInt8)) = false := by rw [bne_eq_false_iff_eq, ← List.isEmpty_iff]; exact e1
          have E : lineS ⟨n, v⟩ = n ++ ⟨#[58]⟩ := by rw [E0.out, if_pos h0]
          have HE := Lib.hid E
          clear E h0
          rw [e2]
          go_wp2
          go_meet
          case rel => exact ⟨by rw [HE.out], ⟨by (with_reducible repeat (first | refine blk_drewN ?_ _ | refine blk_drew ?_ | refine blk_alloc ?_ _)); exact BK315.out⟩, ⟨by repeat (first | (with_reducible first | exact HB.out | apply below_alloc | apply pw_below_drewN | apply below_drew1) | exact HB.out)⟩⟩
        · have e1 : t.toList.isEmpty = false := by rw [toList_bl, ← Bool.not_eq_true, List.isEmpty_iff, ← List.length_eq_zero_iff, bl_length]; exact h0
          have e2 : (!t.toList.isEmpty) = true := by rw [e1]; rfl
          have e5 : ¬ t.toList = [] := fun h => by rw [h] at e1; cases e1
          have e3 : (t.toList == ([] : List UInt8)) = false := beq_eq_false_iff_ne.2 e5
          have e4 : (t.toList != ([] : List UInt8)) = true := bne_iff_ne.2 e5
          have E : lineS ⟨n, v⟩ = ((n ++ ⟨#[58]⟩) ++ ⟨#[32]⟩) ++ t := by rw [E0.out, if_neg h0]
          have HE := Lib.hid E
          have z1 : (n ++ (⟨#[58]⟩ : ByteArray)).size = n.size + 1 := by rw [ByteArray.size_append]; rfl
          have z2 : ((n ++ (⟨#[58]⟩ : ByteArray)) ++ (⟨#[32]⟩ : ByteArray)).size = n.size + 1 + 1 := by rw [ByteArray.size_append, z1]; rfl
          have x2 : (9223372036854775807 < (n ++ (⟨#[58]⟩ : ByteArray)).size + 1) = False := eq_false (by omega)
          have x3 : (9223372036854775807 < ((n ++ (⟨#[58]⟩ : ByteArray)) ++ (⟨#[32]⟩ : ByteArray)).size + t.size) = False := eq_false (by omega)
          have x4 : (9223372036854775807 < n.size + 1 + 1) = False := eq_false (by omega)
          have x5 : (9223372036854775807 < n.size + 1 + 1 + t.size) = False := eq_false (by omega)
          clear E h0 z1 z2
          rw [e2]
          go_wp2
          go_meet
          case rel => exact ⟨by rw [HE.out], ⟨by (with_reducible repeat (first | refine blk_drewN ?_ _ | refine blk_drew ?_ | refine blk_alloc ?_ _)); exact BK315.out⟩, ⟨by repeat (first | (with_reducible first | exact HB.out | apply below_alloc | apply pw_below_drewN | apply below_drew1) | exact HB.out)⟩⟩
      case rest =>
        obtain ⟨rfl, BK315, HB⟩ := hcut
        have hls : (lineS ⟨n, v⟩).size ≤ 2097152 := by
          rw [E0.out]
          split
          · rw [ByteArray.size_append, show (⟨#[58]⟩ : ByteArray).size = 1 from rfl]; omega
          · rw [ByteArray.size_append, ByteArray.size_append, ByteArray.size_append, show (⟨#[58]⟩ : ByteArray).size = 1 from rfl, show (⟨#[32]⟩ : ByteArray).size = 1 from rfl]; omega
        have HO := Aside0.mk (show FoldRest [] (lineS ⟨n, v⟩) (n.size + 1) [] (lineS ⟨n, v⟩) (n.size + 1) from ⟨_, Nat.le_refl _, rfl⟩)
        have HR := Aside0.mk (show oneL n v = foldL (lineS ⟨n, v⟩).size (lineS ⟨n, v⟩) (n.size + 1) from rfl)
        clear E0 HT hts hcz_0 hcz_1 hfz_0 hfz_1 x1
        generalize lineS ⟨n, v⟩ = s0 at *
        have hcz_0 : wc.cell? ⟨gb315, 0, none⟩ = some (.string n) := (blk_cell BK315.out 0).trans rfl
        have hfz_0 := blk_frozen BK315.out 0
        go_wp2_with fail
        go_loopw [5, 6, 7] (fun v5 v6 v7 wr => ∃ (s1 : ByteArray) (b1 : Nat) (o : ByteArray), v5 = .string s1 ∧ v6 = .int .i64 b1 ∧ v7 = .string o ∧ b1 ≤ 998 ∧ o.size + 2 * s1.size + 2 ≤ 1099511627776 ∧ Aside0 (FoldRest [] s0 (n.size + 1) (bl o) s1 b1) ∧ Aside0 (wr.heap[gb315]? = some (.cells #[.string n, .string v] 35 (0, 0))) ∧ Aside0 (Below w.heap.size w wr)) (fun v _ _ _ => match v with | .string x => x.size | _ => 0)
        case atStart => exact ⟨s0, n.size + 1, ⟨#[]⟩, rfl, by go_num, rfl, by omega, by rw [show (⟨#[]⟩ : ByteArray).size = 0 from rfl]; omega, HO, ⟨by (with_reducible repeat (first | refine blk_drewN ?_ _ | refine blk_drew ?_ | refine blk_alloc ?_ _)); exact BK315.out⟩, ⟨by repeat (first | (with_reducible first | exact HB.out | apply below_alloc | apply pw_below_drewN | apply below_drew1) | exact HB.out)⟩⟩
        case round =>
          clear HB BK315 HO hcz_0 hfz_0
          obtain ⟨s1, b1, o, rfl, rfl, rfl, hb1, hsz, HF, BK315, HB⟩ := hrel
          have hx : ∀ i, (s1.extract 0 i).size ≤ s1.size := fun i => by simp; omega
          by_cases h78 : 78 < s1.size
          · obtain ⟨kp, hkp⟩ := (place_ev s1 (by omega) h78 b1 hb1).rounds
            have hfl := foldAtS_le s1 b1
            by_cases h0 : 0 < foldAtS s1 b1
            · have hr : placeI s1 b1 = ((foldAtS s1 b1 : Nat) : Int) := by unfold placeI; rw [if_pos h0]
              have hcut := HF.out.cut h78 h0
              rw [hr] at hkp
              have HKP := Aside0.mk hkp
              have HC := Aside0.mk hcut
              clear hkp hr hcut
              generalize foldAtS s1 b1 = i at *
              have y0 := hx i
              have x1 : (9223372036854775807 < o.size + (s1.extract 0 i).size) = False := eq_false (by omega)
              have x2 : (9223372036854775807 < o.size + (s1.extract 0 i).size + 1) = False := eq_false (by omega)
              have x3 : (9223372036854775807 < (o ++ s1.extract 0 i).size + 1) = False := eq_false (by rw [ByteArray.size_append]; omega)
              have x4 : (9223372036854775807 < o.size + min i s1.size) = False := eq_false (by omega)
              have x5 : (9223372036854775807 < o.size + min i s1.size + 1) = False := eq_false (by omega)
              have x6 : (9223372036854775807 < o.size + i + 1) = False := eq_false (by omega)
              have p1 := eq_true (show (i : Int) ≤ (s1.size : Int) by omega)
              have p2 : (decide ((i : Int) < 0)) = false := by simp
              have HX := Aside0.mk hx
              clear hx y0
              go_wp2_with fail
              refine (missiveref09_place.calls kp s1 _ _ _ HKP.out).mono ?_
              rintro e w3 ⟨rfl, hb3⟩
              have BK2 := Aside0.mk ((hb3.block _ (Array.getElem?_eq_some_iff.1 BK315.out).1).trans BK315.out)
              have HB2 := Aside0.mk (HB.out.trans (hb3.mono HB.out.size))
              clear hb3
              go_wp2
              go_roundw
              case rel => exact ⟨s1.extract i s1.size, 0, (o ++ s1.extract 0 i) ++ ⟨#[10]⟩, rfl, rfl, rfl, by omega, by rw [ByteArray.size_append, ByteArray.size_append, show (⟨#[10]⟩ : ByteArray).size = 1 from rfl, show (s1.extract i s1.size).size = s1.size - i by simp, show (s1.extract 0 i).size = i by simp; omega]; omega, ⟨by have := HC.out; rw [bl_append, bl_append, List.append_assoc]; exact this⟩, ⟨by (with_reducible repeat (first | refine blk_drewN ?_ _ | refine blk_drew ?_ | refine blk_alloc ?_ _)); exact BK2.out⟩, ⟨by repeat (first | (with_reducible first | exact HB2.out | apply below_alloc | apply pw_below_drewN | apply below_drew1) | exact HB2.out)⟩⟩
              case measure => simp; omega
            · have hr : placeI s1 b1 = -1 := by unfold placeI; rw [if_neg h0]
              rw [hr] at hkp
              have HKP := Aside0.mk hkp
              clear hkp hr hfl
              by_cases h998 : s1.size ≤ 998
              · have hst := HF.out.stop (.inr ⟨h0, h998⟩)
                have HC := Aside0.mk hst
                have x1 : (9223372036854775807 < o.size + s1.size) = False := eq_false (by omega)
                have x2 : (9223372036854775807 < o.size + s1.size + 1) = False := eq_false (by omega)
                have x3 : (9223372036854775807 < (o ++ s1).size + 1) = False := eq_false (by rw [ByteArray.size_append]; omega)
                clear hst hx h0
                go_wp2_with fail
                refine (missiveref09_place.calls kp s1 _ _ _ HKP.out).mono ?_
                rintro e w3 ⟨rfl, hb3⟩
                have HB2 := Aside0.mk (HB.out.trans (hb3.mono HB.out.size))
                clear hb3
                go_wp2
                go_ret
                refine ⟨?_, by repeat (first | (with_reducible first | exact HB2.out | apply below_alloc | apply pw_below_drewN | apply below_drew1) | exact HB2.out)⟩
                have h5 : (o ++ s1) ++ ⟨#[10]⟩ = mkB (oneL n v) := by
                  apply bl_inj
                  rw [bl_append, bl_append, bl_mkB, HR.out]
                  have := HC.out
                  rw [List.nil_append] at this
                  rw [this, List.append_assoc]
                exact congrArg (fun s => Ending.returned (Value.string s)) h5
              · have hha := HF.out.hard h78 h0 h998
                have HC := Aside0.mk hha
                have y0 := hx 998
                have y1 : (s1.extract 998 s1.size).size ≤ s1.size := by simp
                have x1 : (9223372036854775807 < o.size + (s1.extract 0 998).size) = False := eq_false (by omega)
                have x2 : (9223372036854775807 < o.size + (s1.extract 0 998).size + 1) = False := eq_false (by omega)
                have x3 : (9223372036854775807 < (o ++ s1.extract 0 998).size + 1) = False := eq_false (by rw [ByteArray.size_append]; omega)
                have x4 : (9223372036854775807 < o.size + min 998 s1.size) = False := eq_false (by omega)
                have x5 : (9223372036854775807 < o.size + min 998 s1.size + 1) = False := eq_false (by omega)
                have x6 : (9223372036854775807 < 1 + (s1.extract 998 s1.size).size) = False := eq_false (by omega)
                have x7 : (9223372036854775807 < 1 + (s1.size - 998)) = False := eq_false (by omega)
                have p1 := eq_true (show (998 : Int) ≤ (s1.size : Int) by omega)
                clear hha hx h0 y0 y1
                go_wp2_with fail
                refine (missiveref09_place.calls kp s1 _ _ _ HKP.out).mono ?_
                rintro e w3 ⟨rfl, hb3⟩
                have BK2 := Aside0.mk ((hb3.block _ (Array.getElem?_eq_some_iff.1 BK315.out).1).trans BK315.out)
                have HB2 := Aside0.mk (HB.out.trans (hb3.mono HB.out.size))
                clear hb3
                go_wp2
                go_roundw
                case rel => exact ⟨⟨#[32]⟩ ++ s1.extract 998 s1.size, 0, (o ++ s1.extract 0 998) ++ ⟨#[10]⟩, rfl, rfl, rfl, by omega, by rw [ByteArray.size_append, ByteArray.size_append, ByteArray.size_append, show (⟨#[10]⟩ : ByteArray).size = 1 from rfl, show (⟨#[32]⟩ : ByteArray).size = 1 from rfl, show (s1.extract 998 s1.size).size = s1.size - 998 by simp, show (s1.extract 0 998).size = 998 by simp; omega]; omega, ⟨by have := HC.out; rw [bl_append, bl_append, List.append_assoc]; exact this⟩, ⟨by (with_reducible repeat (first | refine blk_drewN ?_ _ | refine blk_drew ?_ | refine blk_alloc ?_ _)); exact BK2.out⟩, ⟨by repeat (first | (with_reducible first | exact HB2.out | apply below_alloc | apply pw_below_drewN | apply below_drew1) | exact HB2.out)⟩⟩
                case measure => simp [show (⟨#[32]⟩ : ByteArray).size = 1 from rfl]; omega
          · have hst := HF.out.stop (.inl (by omega))
            have HC := Aside0.mk hst
            have x1 : (9223372036854775807 < o.size + s1.size) = False := eq_false (by omega)
            have x2 : (9223372036854775807 < o.size + s1.size + 1) = False := eq_false (by omega)
            have x3 : (9223372036854775807 < (o ++ s1).size + 1) = False := eq_false (by rw [ByteArray.size_append]; omega)
            clear hst hx
            go_wp2
            go_ret
            refine ⟨?_, by repeat (first | (with_reducible first | exact HB.out | apply below_alloc | apply pw_below_drewN | apply below_drew1) | exact HB.out)⟩
            have h5 : (o ++ s1) ++ ⟨#[10]⟩ = mkB (oneL n v) := by
              apply bl_inj
              rw [bl_append, bl_append, bl_mkB, HR.out]
              have := HC.out
              rw [List.nil_append] at this
              rw [this, List.append_assoc]
            exact congrArg (fun s => Ending.returned (Value.string s)) h5
def missiveref09_One.f (_ : Nat) (n v : ByteArray) : Option ByteArray := if n.size ≤ 997 ∧ v.size ≤ 1048576 then some (mkB (oneL n v)) else none
theorem missiveref09_One.mono : ∀ a0 a1 k, LeO (missiveref09_One.f k a0 a1) (missiveref09_One.f (k + 1) a0 a1) := fun _ _ _ => LeO.refl _
theorem missiveref09_One.calls (k : Nat) (a0_0 : ByteArray) (a0_1 : ByteArray) (r : ByteArray) (w : World) (h : missiveref09_One.f k a0_0 a0_1 = some r) :
    Calls Tryz.prog 67 #[.agg #[.string a0_0, .string a0_1]] w fun e w' => e = .returned (.string r) ∧ Below w.heap.size w w' := by
  unfold missiveref09_One.f at h
  split at h
  · rename_i hs
    obtain rfl := Option.some.inj h
    exact one_calls a0_0 a0_1 hs.1 hs.2 w
  · cases h
end Go.Proofs.YtieompfmhnpnaaaGreat.H
end
section
namespace Go.Proofs.YtieompfmhnpnaaaGreat.H
open Go.RowKit Go.Proofs.YtieompfmhnpnaaaGreatW.PrintWords Go.Proofs.YtieompfmhnpnaaaGreatW.PrintLast Go.Proofs.YtieompfmhnpnaaaGreatW.PrintMore
attribute [local go_sem] max2_int min2_int max_two min_two max_three min_three max_four min_four
set_option linter.unusedVariables false
set_option linter.unusedSimpArgs false
def missiveref09_Write.l0 : Nat → List (S35) → ByteArray → Int → Option (ByteArray)
  | 0, _, _, _ => none
  | k + 1, x0, x3, x4 => if x4 < (x0.length : Int) then (if 0 ≤ x4 then ((missiveref09_Named.f k ((rd_T35 x0 x4).f0)).bind fun t319 => (if t319 = true then ((missiveref09_One.f k ((rd_T35 x0 x4).f0) ((rd_T35 x0 x4).f1)).bind fun t321 => (if x3.size + t321.size ≤ 9223372036854775807 then (missiveref09_Write.l0 k x0 (x3 ++ t321) (wrap64 (x4 + 1))) else (none))) else (missiveref09_Write.l0 k x0 x3 (wrap64 (x4 + 1))))) else (none)) else (some x3)
def missiveref09_Write.f (k : Nat) (l0 : List (S35)) : Option (ByteArray) := missiveref09_Write.l0 k l0 (⟨#[]⟩ : ByteArray) 0
theorem missiveref09_Write.mono_l : ∀ k, (∀ y0 y1 y2, LeO (missiveref09_Write.l0 k y0 y1 y2) (missiveref09_Write.l0 (k + 1) y0 y1 y2))
  | 0 => fun _ _ _ r h => by simp [missiveref09_Write.l0] at h
  | k + 1 => by
    have ih0 := missiveref09_Write.mono_l k
    · intro y0 y1 y2
      unfold missiveref09_Write.l0
      repeat' first
      | (with_reducible exact ih0 _ _ _)
      | (with_reducible exact missiveref09_Named.mono _ _)
      | (with_reducible exact missiveref09_One.mono _ _ _)
      | (with_reducible exact LeO.refl _)
      | (with_reducible exact LeO.none _)
      | (with_reducible refine LeO.ite ?_ ?_)
      | (with_reducible refine LeO.bind ?_ (fun _ => ?_))
      | exact ih0 _ _ _
      | exact missiveref09_Named.mono _ _
      | exact missiveref09_One.mono _ _ _
      | exact LeO.none _
      | refine LeO.ite ?_ ?_
      | refine LeO.bind ?_ (fun _ => ?_)
theorem missiveref09_Write.mono : ∀ a0 k, LeO (missiveref09_Write.f k a0) (missiveref09_Write.f (k + 1) a0) := by
  intro a0 k
  have ih0 := missiveref09_Write.mono_l k
  unfold missiveref09_Write.f
  repeat' first
      | (with_reducible exact ih0 _ _ _)
      | (with_reducible exact missiveref09_Named.mono _ _)
      | (with_reducible exact missiveref09_One.mono _ _ _)
      | (with_reducible exact LeO.refl _)
      | (with_reducible exact LeO.none _)
      | (with_reducible refine LeO.ite ?_ ?_)
      | (with_reducible refine LeO.bind ?_ (fun _ => ?_))
      | exact ih0 _ _ _
      | exact missiveref09_Named.mono _ _
      | exact missiveref09_One.mono _ _ _
      | exact LeO.none _
      | refine LeO.ite ?_ ?_
      | refine LeO.bind ?_ (fun _ => ?_)
set_option maxHeartbeats 8000000 in
set_option maxRecDepth 100000 in
theorem missiveref09_Write.calls (k : Nat) (A0 : Option Addr) (c0 : Nat) (l0 : List (S35)) (r : ByteArray) (w : World) (hr0 : Kd.C k35 w A0 l0.length l0) (hc0 : l0.length ≤ c0) (h : missiveref09_Write.f k l0 = some r) :
    Calls Tryz.prog 29 #[.slice A0 l0.length c0] w fun e w' => e = .returned (.string r) ∧ Below w.heap.size w w' := by
  have hu35 := Tryz.underlying35
  have HR0 := Aside0.mk hr0
  have HC0 := Aside0.mk hc0
  clear hr0 hc0
  have HB := Aside0.mk (Below.refl w.heap.size w)
  have H : (missiveref09_Write.l0 k l0 (⟨#[]⟩ : ByteArray) 0) = some r := h
  clear h
  have H' := Aside0.mk H
  clear H
  go_enter Tryz.func29, Tryz.ntmps29
  go_wp2
  go_loopg [3, 4] k (fun kq v3 v4 w' => ∃ (x3_1 : ByteArray) (x4_1 : Int), v3 = .string x3_1 ∧ v4 = .int .i64 x4_1 ∧ Aside0 (missiveref09_Write.l0 kq l0 x3_1 x4_1 = some r) ∧ Aside0 (kq ≤ k) ∧ Aside0 (Below w.heap.size w w'))
  case atStart => exact ⟨((⟨#[]⟩ : ByteArray)), (0), (by first | rfl | (simp; done) | (simp [*]; done)), (by first | rfl | (simp; done) | (simp [*]; done)), H', ⟨Nat.le_refl _⟩, ⟨by repeat (first | (with_reducible first | exact HB.out | apply below_alloc | apply pw_below_drewN | apply below_drew1) | exact HB.out)⟩⟩
  case round =>
    clear H'
    obtain ⟨x3_1, x4_1, rfl, rfl, HA, HK1, HB⟩ := hrel
    cases gk with
    | zero => exact absurd HA.out (by simp [missiveref09_Write.l0])
    | succ k1 =>
      have H := HA.out
      clear HA
      simp only [missiveref09_Write.l0] at H
      by_cases c2 : x4_1 < (l0.length : Int)
      · rw [if_pos c2] at H
        have c2b0 : decide (x4_1 < (l0.length : Int)) = true := decide_eq_true c2
        clear c2
        by_cases c3 : 0 ≤ x4_1
        · rw [if_pos c3] at H
          have c3b0 : decide (0 ≤ x4_1) = true := decide_eq_true c3
          clear c3
          replace H := Option.bind_eq_some_iff.mp H
          obtain ⟨t319, A40, H⟩ := H
          replace H : (if t319 = true then ((missiveref09_One.f k1 ((rd_T35 l0 x4_1).f0) ((rd_T35 l0 x4_1).f1)).bind fun t321 => (if x3_1.size + t321.size ≤ 9223372036854775807 then (missiveref09_Write.l0 k1 l0 (x3_1 ++ t321) (wrap64 (x4_1 + 1))) else (none))) else (missiveref09_Write.l0 k1 l0 x3_1 (wrap64 (x4_1 + 1)))) = some r := H
          have A4 := Aside0.mk A40
          clear A40
          by_cases c5 : t319 = true
          · subst c5
            have H1 : ((missiveref09_One.f k1 ((rd_T35 l0 x4_1).f0) ((rd_T35 l0 x4_1).f1)).bind fun t321 => (if x3_1.size + t321.size ≤ 9223372036854775807 then (missiveref09_Write.l0 k1 l0 (x3_1 ++ t321) (wrap64 (x4_1 + 1))) else (none))) = some r := by rw [if_pos rfl] at H; exact H
            clear H
            have H := H1
            clear H1
            replace H := Option.bind_eq_some_iff.mp H
            obtain ⟨t321, A60, H⟩ := H
            replace H : (if x3_1.size + t321.size ≤ 9223372036854775807 then (missiveref09_Write.l0 k1 l0 (x3_1 ++ t321) (wrap64 (x4_1 + 1))) else (none)) = some r := H
            have A6 := Aside0.mk A60
            clear A60
            by_cases c7 : x3_1.size + t321.size ≤ 9223372036854775807
            · rw [if_pos c7] at H
              have c7b0 := eq_true c7
              have c7b1 : decide (x3_1.size + t321.size ≤ 9223372036854775807) = true := decide_eq_true c7
              try have c7b2 : (9223372036854775807 < x3_1.size + t321.size) = False := eq_false (Nat.not_lt.2 c7)
              have H' := Aside0.mk H
              clear H
              have p318 : 0 ≤ (x4_1 : Int) := of_decide_eq_true (by first | (with_reducible assumption) | assumption)
              have q318 : x4_1 < (l0.length : Int) := of_decide_eq_true (by first | (with_reducible assumption) | assumption)
              obtain ⟨ad318, e318, hx318_0, hx318_1⟩ := at_T35 HR0.out x4_1 p318 q318
              cases e318
              replace hx318_0 := (HB.out.cell (World.block_lt_of_cell? w _ hx318_0)).trans hx318_0
              replace hx318_1 := (HB.out.cell (World.block_lt_of_cell? w _ hx318_1)).trans hx318_1
              replace p318 := eq_true p318
              replace q318 := eq_true q318
              go_wp2_with (first | ((with_reducible refine gate_callee (f := 19) rfl ?_); refine goesL_ (some 16) rfl rfl Tryz.func19 (by kernel_rfl) rfl #[.string ((rd_T35 l0 x4_1).f0)] rfl (by (try simp only [List.map_toArray, List.map_cons, List.map_nil]); first | done | rfl | (simp only [List.length_drop, List.length_take]; rfl)) ?_; (with_reducible refine (missiveref09_Named.calls k1 ((rd_T35 l0 x4_1).f0) true _ A4.out).mono ?_); rintro e w' ⟨rfl, ⟨nd, rfl⟩⟩; refine ⟨_, rfl, ?_⟩; have p320 : 0 ≤ (x4_1 : Int) := of_decide_eq_true (by first | (with_reducible assumption) | assumption); have q320 : x4_1 < (l0.length : Int) := of_decide_eq_true (by first | (with_reducible assumption) | assumption); obtain ⟨ad320, e320, hx320_0, hx320_1⟩ := at_T35 HR0.out x4_1 p320 q320; obtain rfl : ad318 = ad320 := (by injection e320); replace hx320_0 := (HB.out.cell (World.block_lt_of_cell? w _ hx320_0)).trans hx320_0; replace hx320_1 := (HB.out.cell (World.block_lt_of_cell? w _ hx320_1)).trans hx320_1; replace p320 := eq_true p320; replace q320 := eq_true q320) | ((with_reducible refine gate_callee (f := 67) rfl ?_); refine goesL_ (some 22) rfl rfl Tryz.func67 (by kernel_rfl) rfl #[.agg #[.string ((rd_T35 l0 x4_1).f0), .string ((rd_T35 l0 x4_1).f1)]] rfl (by (try simp only [List.map_toArray, List.map_cons, List.map_nil]); first | done | rfl | (simp only [List.length_drop, List.length_take]; rfl)) ?_; (with_reducible refine (missiveref09_One.calls k1 ((rd_T35 l0 x4_1).f0) ((rd_T35 l0 x4_1).f1) t321 _ A6.out).mono ?_); rintro e w8 ⟨rfl, hb⟩; refine ⟨_, rfl, ?_⟩; have n0_ := Aside0.mk (below_step (by repeat (first | (with_reducible first | exact HB.out | apply below_alloc | apply pw_below_drewN | apply below_drew1) | exact HB.out)) hb); clear HB; have HB := n0_; clear n0_; (try clear hb); (try clear hb2); (try clear hk); (try clear hi)))
              go_roundg k1
              case measure => have := HK1.out; omega
              case rel => exact ⟨(x3_1 ++ t321), (wrap64 (x4_1 + 1)), (by first | rfl | (simp; done) | (simp [*]; done)), (by first | rfl | (simp; done) | (simp [*]; done)), H', ⟨by have := HK1.out; omega⟩, ⟨by repeat (first | (with_reducible first | exact HB.out | apply below_alloc | apply pw_below_drewN | apply below_drew1) | exact HB.out)⟩⟩
            · rw [if_neg c7] at H
              exact absurd H (by simp)
          · replace c5 := Bool.eq_false_iff.mpr c5
            subst c5
            have H1 : (missiveref09_Write.l0 k1 l0 x3_1 (wrap64 (x4_1 + 1))) = some r := by rw [if_neg (show ¬ (false = true) by decide)] at H; exact H
            clear H
            have H := H1
            clear H1
            have H' := Aside0.mk H
            clear H
            have p318 : 0 ≤ (x4_1 : Int) := of_decide_eq_true (by first | (with_reducible assumption) | assumption)
            have q318 : x4_1 < (l0.length : Int) := of_decide_eq_true (by first | (with_reducible assumption) | assumption)
            obtain ⟨ad318, e318, hx318_0, hx318_1⟩ := at_T35 HR0.out x4_1 p318 q318
            cases e318
            replace hx318_0 := (HB.out.cell (World.block_lt_of_cell? w _ hx318_0)).trans hx318_0
            replace hx318_1 := (HB.out.cell (World.block_lt_of_cell? w _ hx318_1)).trans hx318_1
            replace p318 := eq_true p318
            replace q318 := eq_true q318
            go_wp2_with (first | ((with_reducible refine gate_callee (f := 19) rfl ?_); refine goesL_ (some 16) rfl rfl Tryz.func19 (by kernel_rfl) rfl #[.string ((rd_T35 l0 x4_1).f0)] rfl (by (try simp only [List.map_toArray, List.map_cons, List.map_nil]); first | done | rfl | (simp only [List.length_drop, List.length_take]; rfl)) ?_; (with_reducible refine (missiveref09_Named.calls k1 ((rd_T35 l0 x4_1).f0) false _ A4.out).mono ?_); rintro e w' ⟨rfl, ⟨nd, rfl⟩⟩; refine ⟨_, rfl, ?_⟩))
            go_roundg k1
            case measure => have := HK1.out; omega
            case rel => exact ⟨(x3_1), (wrap64 (x4_1 + 1)), (by first | rfl | (simp; done) | (simp [*]; done)), (by first | rfl | (simp; done) | (simp [*]; done)), H', ⟨by have := HK1.out; omega⟩, ⟨by repeat (first | (with_reducible first | exact HB.out | apply below_alloc | apply pw_below_drewN | apply below_drew1) | exact HB.out)⟩⟩
        · rw [if_neg c3] at H
          exact absurd H (by simp)
      · rw [if_neg c2] at H
        have c2b0 : decide (x4_1 < (l0.length : Int)) = false := decide_eq_false c2
        clear c2
        obtain rfl := Option.some.inj H
        go_wp2
        go_ret
        exact ⟨by first | rfl | (simp [errW_none, errW_some]; done) | (simp [errW_none, errW_some]; exact isEmpty_nbne _) | (simp [errW_none, errW_some]; exact isEmpty_bne _) | (simp [errW_none, errW_some] <;> rfl) | (simp [*, errW_none, errW_some] <;> rfl), by repeat (first | (with_reducible first | exact HB.out | apply below_alloc | apply pw_below_drewN | apply below_drew1) | exact HB.out)⟩
end Go.Proofs.YtieompfmhnpnaaaGreat.H
end
section
namespace Go.Proofs.YtieompfmhnpnaaaGreat.H
open Go.RowKit Go.Proofs.YtieompfmhnpnaaaGreatW.PrintWords Go.Proofs.YtieompfmhnpnaaaGreatW.PrintLast Go.Proofs.YtieompfmhnpnaaaGreatW.PrintMore
attribute [local go_sem] max2_int min2_int max_two min_two max_three min_three max_four min_four
set_option linter.unusedVariables false
set_option linter.unusedSimpArgs false
def text_Lines.l0 : Nat → ByteArray → List ByteArray → Option (List ByteArray)
  | 0, _, _ => none
  | k + 1, x0, x3 => if x0.toList = ([] : List UInt8) then (some x3) else ((strings_Cut.f x0 (⟨#[10]⟩ : ByteArray)).bind fun bt263 => (if bt263.2.2 = true then ((strings_TrimSuffix.f bt263.1 (⟨#[13]⟩ : ByteArray)).bind fun t266 => (if x3.length < 8796093022208 then (text_Lines.l0 k bt263.2.1 (x3 ++ [t266])) else (none))) else (if x3.length < 8796093022208 then (text_Lines.l0 k bt263.2.1 (x3 ++ [bt263.1])) else (none))))
def text_Lines.f (k : Nat) (a0 : ByteArray) : Option (List ByteArray) := text_Lines.l0 k a0 ([] : List ByteArray)
theorem text_Lines.mono_l : ∀ k, (∀ y0 y1, LeO (text_Lines.l0 k y0 y1) (text_Lines.l0 (k + 1) y0 y1))
  | 0 => fun _ _ r h => by simp [text_Lines.l0] at h
  | k + 1 => by
    have ih0 := text_Lines.mono_l k
    · intro y0 y1
      unfold text_Lines.l0
      repeat' first
      | (with_reducible exact ih0 _ _)
      | (with_reducible exact LeO.refl _)
      | (with_reducible exact LeO.none _)
      | (with_reducible refine LeO.ite ?_ ?_)
      | (with_reducible refine LeO.bind ?_ (fun _ => ?_))
      | exact ih0 _ _
      | exact LeO.none _
      | refine LeO.ite ?_ ?_
      | refine LeO.bind ?_ (fun _ => ?_)
theorem text_Lines.mono : ∀ a0 k, LeO (text_Lines.f k a0) (text_Lines.f (k + 1) a0) := by
  intro a0 k
  have ih0 := text_Lines.mono_l k
  unfold text_Lines.f
  repeat' first
      | (with_reducible exact ih0 _ _)
      | (with_reducible exact LeO.refl _)
      | (with_reducible exact LeO.none _)
      | (with_reducible refine LeO.ite ?_ ?_)
      | (with_reducible refine LeO.bind ?_ (fun _ => ?_))
      | exact ih0 _ _
      | exact LeO.none _
      | refine LeO.ite ?_ ?_
      | refine LeO.bind ?_ (fun _ => ?_)
set_option maxHeartbeats 8000000 in
set_option maxRecDepth 100000 in
theorem text_Lines.calls (k : Nat) (a0 : ByteArray) (r : List ByteArray) (w : World) (h : text_Lines.f k a0 = some r) :
    Calls Tryz.prog 25 #[.string a0] w fun e w' => ∃ v0_ : Value, e = .returned (v0_) ∧ Kd.R Kd.string 9 w' w.heap.size (fun _ => True) v0_ r ∧ Below w.heap.size w w' := by
  have HB := Aside0.mk (Below.refl w.heap.size w)
  have H : (text_Lines.l0 k a0 ([] : List ByteArray)) = some r := h
  clear h
  have H' := Aside0.mk H
  clear H
  go_enter Tryz.func25, Tryz.ntmps25
  go_wp2
  go_loopg [0, 3] k (fun kq v0 v3 w' => ∃ (x0_1 : ByteArray) (x3_1 : List ByteArray), v0 = .string x0_1 ∧ Aside0 (text_Lines.l0 kq x0_1 x3_1 = some r) ∧ Aside0 (kq ≤ k) ∧ Aside0 (Kd.R Kd.string 9 w' w.heap.size (fun _ => True) v3 x3_1) ∧ Aside0 (Below w.heap.size w w'))
  case atStart => exact ⟨(a0), (([] : List ByteArray)), (by first | rfl | (simp; done) | (simp [*]; done)), H', ⟨Nat.le_refl _⟩, ⟨by first | exact Kd.R_nil _ _ _ _ _ | exact Kd.N_nil _ _ _ _ _ | exact Kd.V_nil _ _ _ _ _ | exact Kd.Q_nil _ _ _ _ _ | exact Kd.S_nil _ _ _ _ _⟩, ⟨by repeat (first | (with_reducible first | exact HB.out | apply below_alloc | apply pw_below_drewN | apply below_drew1) | exact HB.out)⟩⟩
  case round =>
    clear H'
    obtain ⟨x0_1, x3_1, rfl, HA, HK1, HO_3, HB⟩ := hrel
    cases gk with
    | zero => exact absurd HA.out (by simp [text_Lines.l0])
    | succ k1 =>
      have H := HA.out
      clear HA
      simp only [text_Lines.l0] at H
      by_cases c2 : x0_1.toList = ([] : List UInt8)
      · rw [if_pos c2] at H
        have c2b0 : (x0_1.toList == ([] : List UInt8)) = true := beq_iff_eq.mpr c2
        have c2b1 : (x0_1.toList != ([] : List UInt8)) = false := bne_eq_false_iff_eq.mpr c2
        clear c2
        obtain rfl := Option.some.inj H
        go_wp2
        go_ret
        exact ⟨_, by first | rfl | (simp [errW_none, errW_some]; done) | (simp [errW_none, errW_some]; exact isEmpty_nbne _) | (simp [errW_none, errW_some]; exact isEmpty_bne _) | (simp [errW_none, errW_some] <;> rfl) | (simp [*, errW_none, errW_some] <;> rfl), by (with_reducible repeat (first | apply Kd.R_alloc | apply Kd.R_drewN | apply Kd.R_drew)); exact HO_3.out, by repeat (first | (with_reducible first | exact HB.out | apply below_alloc | apply pw_below_drewN | apply below_drew1) | exact HB.out)⟩
      · rw [if_neg c2] at H
        have c2b0 : (x0_1.toList == ([] : List UInt8)) = false := beq_eq_false_iff_ne.mpr c2
        have c2b1 : (x0_1.toList != ([] : List UInt8)) = true := bne_iff_ne.mpr c2
        replace H := Option.bind_eq_some_iff.mp H
        obtain ⟨⟨t263, t264, t265⟩, A30, H⟩ := H
        replace H : (if t265 = true then ((strings_TrimSuffix.f t263 (⟨#[13]⟩ : ByteArray)).bind fun t266 => (if x3_1.length < 8796093022208 then (text_Lines.l0 k1 t264 (x3_1 ++ [t266])) else (none))) else (if x3_1.length < 8796093022208 then (text_Lines.l0 k1 t264 (x3_1 ++ [t263])) else (none))) = some r := H
        have A3 := Aside0.mk A30
        clear A30
        by_cases c4 : t265 = true
        · subst c4
          have H1 : ((strings_TrimSuffix.f t263 (⟨#[13]⟩ : ByteArray)).bind fun t266 => (if x3_1.length < 8796093022208 then (text_Lines.l0 k1 t264 (x3_1 ++ [t266])) else (none))) = some r := by rw [if_pos rfl] at H; exact H
          clear H
          have H := H1
          clear H1
          replace H := Option.bind_eq_some_iff.mp H
          obtain ⟨t266, A50, H⟩ := H
          replace H : (if x3_1.length < 8796093022208 then (text_Lines.l0 k1 t264 (x3_1 ++ [t266])) else (none)) = some r := H
          have A5 := Aside0.mk A50
          clear A50
          by_cases c6 : x3_1.length < 8796093022208
          · rw [if_pos c6] at H
            have LMc6 := Aside0.mk c6
            clear c6
            obtain ⟨y267, hy267⟩ : ∃ y_ : List ByteArray, y_ = (x3_1 ++ [t266]) := ⟨_, rfl⟩
            replace H : (text_Lines.l0 k1 t264 y267) = some r := by first | (rw [hy267]; with_reducible exact H) | (have H2_ := (Option.bind_some _ _).symm.trans H; rw [hy267]; with_reducible exact H2_) | (have H2_ := (Option.bind_some _ _).symm.trans H; with_reducible exact H2_) | with_reducible exact H | (rw [hy267]; exact H) | exact H
            have Ny267 := Aside0.mk hy267
            clear hy267
            have H' := Aside0.mk H
            clear H
            go_wp2_with (first | ((with_reducible refine gate_callee (f := 40) rfl ?_); refine goesL_ (some 11) rfl rfl Tryz.func40 (by kernel_rfl) rfl #[.string x0_1, .string (⟨#[10]⟩ : ByteArray)] rfl (by (try simp only [List.map_toArray, List.map_cons, List.map_nil]); first | done | rfl | (simp only [List.length_drop, List.length_take]; rfl)) ?_; (with_reducible refine (strings_Cut.calls x0_1 (⟨#[10]⟩ : ByteArray) t263 t264 true _ A3.out).mono ?_); rintro e w' ⟨rfl, ⟨nd, rfl⟩⟩; refine ⟨_, rfl, ?_⟩) | ((with_reducible refine gate_callee (f := 63) rfl ?_); refine goesL_ (some 17) rfl rfl Tryz.func63 (by kernel_rfl) rfl #[.string t263, .string (⟨#[13]⟩ : ByteArray)] rfl (by (try simp only [List.map_toArray, List.map_cons, List.map_nil]); first | done | rfl | (simp only [List.length_drop, List.length_take]; rfl)) ?_; (with_reducible refine (strings_TrimSuffix.calls t263 (⟨#[13]⟩ : ByteArray) t266 _ A5.out).mono ?_); rintro e w' ⟨rfl, ⟨nd, rfl⟩⟩; refine ⟨_, rfl, ?_⟩) | ((with_reducible refine gate_builtin (b := .append) (xs := #[.tmp 18, .tmp 20]) rfl ?_); at_builtin; refine Kd.R_append Kd.string (w0 := w) w.heap.size rfl (.tmp 18) (.tmp 20) 42 9 (.string ⟨#[]⟩) 16 rfl Tryz.underlying42 info9 rfl (by decide) (by omega) u3 x3_1 t266 [.string t266] (fun _ => True) (fun _ => False) rfl rfl ?aP (fun _ hk => hk.elim) ?aF ?aO ?aB ?aS ?aL ?_; (case aP => exact rfl); (case aB => exact (by repeat (first | (with_reducible first | exact HB.out | apply below_alloc | apply pw_below_drewN | apply below_drew1) | exact HB.out))); (case aF => exact (fun _ _ => trivial)); (case aO => exact (by (with_reducible repeat (first | apply Kd.R_alloc | apply Kd.R_drewN | apply Kd.R_drew)); exact HO_3.out)); (case aS => exact (below_size (by repeat (first | (with_reducible first | exact HB.out | apply below_alloc | apply pw_below_drewN | apply below_drew1) | exact HB.out)))); (case aL => have := LMc6.out; omega); intro v268 w7 ho hb hg hat; rw [← Ny267.out] at ho; have n0_ := Aside0.mk (hb); have n1_ := Aside0.mk (ho); clear HB; clear HO_3; have HB := n0_; have HO269 := n1_; clear n0_ n1_; clear ho hb hg hat))
            go_roundg k1
            case measure => have := HK1.out; omega
            case rel => exact ⟨(t264), (y267), (by first | rfl | (simp; done) | (simp [*]; done)), H', ⟨by have := HK1.out; omega⟩, ⟨by (with_reducible repeat (first | apply Kd.R_alloc | apply Kd.R_drewN | apply Kd.R_drew)); exact HO269.out⟩, ⟨by repeat (first | (with_reducible first | exact HB.out | apply below_alloc | apply pw_below_drewN | apply below_drew1) | exact HB.out)⟩⟩
          · rw [if_neg c6] at H
            exact absurd H (by simp)
        · replace c4 := Bool.eq_false_iff.mpr c4
          subst c4
          have H1 : (if x3_1.length < 8796093022208 then (text_Lines.l0 k1 t264 (x3_1 ++ [t263])) else (none)) = some r := by rw [if_neg (show ¬ (false = true) by decide)] at H; exact H
          clear H
          have H := H1
          clear H1
          by_cases c8 : x3_1.length < 8796093022208
          · rw [if_pos c8] at H
            have LMc8 := Aside0.mk c8
            clear c8
            obtain ⟨y270, hy270⟩ : ∃ y_ : List ByteArray, y_ = (x3_1 ++ [t263]) := ⟨_, rfl⟩
            replace H : (text_Lines.l0 k1 t264 y270) = some r := by first | (rw [hy270]; with_reducible exact H) | (have H2_ := (Option.bind_some _ _).symm.trans H; rw [hy270]; with_reducible exact H2_) | (have H2_ := (Option.bind_some _ _).symm.trans H; with_reducible exact H2_) | with_reducible exact H | (rw [hy270]; exact H) | exact H
            have Ny270 := Aside0.mk hy270
            clear hy270
            have H' := Aside0.mk H
            clear H
            go_wp2_with (first | ((with_reducible refine gate_callee (f := 40) rfl ?_); refine goesL_ (some 11) rfl rfl Tryz.func40 (by kernel_rfl) rfl #[.string x0_1, .string (⟨#[10]⟩ : ByteArray)] rfl (by (try simp only [List.map_toArray, List.map_cons, List.map_nil]); first | done | rfl | (simp only [List.length_drop, List.length_take]; rfl)) ?_; (with_reducible refine (strings_Cut.calls x0_1 (⟨#[10]⟩ : ByteArray) t263 t264 false _ A3.out).mono ?_); rintro e w' ⟨rfl, ⟨nd, rfl⟩⟩; refine ⟨_, rfl, ?_⟩) | ((with_reducible refine gate_builtin (b := .append) (xs := #[.tmp 18, .tmp 20]) rfl ?_); at_builtin; refine Kd.R_append Kd.string (w0 := w) w.heap.size rfl (.tmp 18) (.tmp 20) 42 9 (.string ⟨#[]⟩) 16 rfl Tryz.underlying42 info9 rfl (by decide) (by omega) u3 x3_1 t263 [.string t263] (fun _ => True) (fun _ => False) rfl rfl ?aP (fun _ hk => hk.elim) ?aF ?aO ?aB ?aS ?aL ?_; (case aP => exact rfl); (case aB => exact (by repeat (first | (with_reducible first | exact HB.out | apply below_alloc | apply pw_below_drewN | apply below_drew1) | exact HB.out))); (case aF => exact (fun _ _ => trivial)); (case aO => exact (by (with_reducible repeat (first | apply Kd.R_alloc | apply Kd.R_drewN | apply Kd.R_drew)); exact HO_3.out)); (case aS => exact (below_size (by repeat (first | (with_reducible first | exact HB.out | apply below_alloc | apply pw_below_drewN | apply below_drew1) | exact HB.out)))); (case aL => have := LMc8.out; omega); intro v271 w9 ho hb hg hat; rw [← Ny270.out] at ho; have n0_ := Aside0.mk (hb); have n1_ := Aside0.mk (ho); clear HB; clear HO_3; have HB := n0_; have HO272 := n1_; clear n0_ n1_; clear ho hb hg hat))
            go_roundg k1
            case measure => have := HK1.out; omega
            case rel => exact ⟨(t264), (y270), (by first | rfl | (simp; done) | (simp [*]; done)), H', ⟨by have := HK1.out; omega⟩, ⟨by (with_reducible repeat (first | apply Kd.R_alloc | apply Kd.R_drewN | apply Kd.R_drew)); exact HO272.out⟩, ⟨by repeat (first | (with_reducible first | exact HB.out | apply below_alloc | apply pw_below_drewN | apply below_drew1) | exact HB.out)⟩⟩
          · rw [if_neg c8] at H
            exact absurd H (by simp)
def missiveref01_Same.f (a0 : ByteArray) (a1 : ByteArray) : Option (Bool) := (missiveref01_Lower.f a0).bind fun t327 => ((missiveref01_Lower.f a1).bind fun t328 => (some (t327.toList == t328.toList)))
set_option maxHeartbeats 8000000 in
set_option maxRecDepth 100000 in
theorem missiveref01_Same.calls (a0 : ByteArray) (a1 : ByteArray) (r : Bool) (w : World) (h : missiveref01_Same.f a0 a1 = some r) :
    Calls Tryz.prog 69 #[.string a0, .string a1] w fun e w' => e = .returned (.bool r) ∧ Below w.heap.size w w' := by
  have HB := Aside0.mk (Below.refl w.heap.size w)
  have H : ((missiveref01_Lower.f a0).bind fun t327 => ((missiveref01_Lower.f a1).bind fun t328 => (some (t327.toList == t328.toList)))) = some r := h
  clear h
  replace H := Option.bind_eq_some_iff.mp H
  obtain ⟨t327, A30, H⟩ := H
  replace H : ((missiveref01_Lower.f a1).bind fun t328 => (some (t327.toList == t328.toList))) = some r := H
  have A3 := Aside0.mk A30
  clear A30
  replace H := Option.bind_eq_some_iff.mp H
  obtain ⟨t328, A40, H⟩ := H
  replace H : (some (t327.toList == t328.toList)) = some r := H
  have A4 := Aside0.mk A40
  clear A40
  obtain rfl := Option.some.inj H
  go_enter Tryz.func69, Tryz.ntmps69
  go_wp2_with (first | ((with_reducible refine gate_callee (f := 44) rfl ?_); refine goesL_ (some 6) rfl rfl Tryz.func44 (by kernel_rfl) rfl #[.string a0] rfl (by (try simp only [List.map_toArray, List.map_cons, List.map_nil]); first | done | rfl | (simp only [List.length_drop, List.length_take]; rfl)) ?_; (with_reducible refine (missiveref01_Lower.calls a0 t327 _ A3.out).mono ?_); rintro e w5 ⟨rfl, hb⟩; refine ⟨_, rfl, ?_⟩; have n0_ := Aside0.mk (below_step (by repeat (first | (with_reducible first | exact HB.out | apply below_alloc | apply pw_below_drewN | apply below_drew1) | exact HB.out)) hb); clear HB; have HB := n0_; clear n0_; (try clear hb); (try clear hb2); (try clear hk); (try clear hi)) | ((with_reducible refine gate_callee (f := 44) rfl ?_); refine goesL_ (some 8) rfl rfl Tryz.func44 (by kernel_rfl) rfl #[.string a1] rfl (by (try simp only [List.map_toArray, List.map_cons, List.map_nil]); first | done | rfl | (simp only [List.length_drop, List.length_take]; rfl)) ?_; (with_reducible refine (missiveref01_Lower.calls a1 t328 _ A4.out).mono ?_); rintro e w6 ⟨rfl, hb⟩; refine ⟨_, rfl, ?_⟩; have n0_ := Aside0.mk (below_step (by repeat (first | (with_reducible first | exact HB.out | apply below_alloc | apply pw_below_drewN | apply below_drew1) | exact HB.out)) hb); clear HB; have HB := n0_; clear n0_; (try clear hb); (try clear hb2); (try clear hk); (try clear hi)))
  go_ret
  exact ⟨by first | rfl | (simp [errW_none, errW_some]; done) | (simp [errW_none, errW_some]; exact isEmpty_nbne _) | (simp [errW_none, errW_some]; exact isEmpty_bne _) | (simp [errW_none, errW_some] <;> rfl) | (simp [*, errW_none, errW_some] <;> rfl), by repeat (first | (with_reducible first | exact HB.out | apply below_alloc | apply pw_below_drewN | apply below_drew1) | exact HB.out)⟩
def missiveref09_Get.l0 : Nat → List (S35) → ByteArray → Int → Option (ByteArray × Bool)
  | 0, _, _, _ => none
  | k + 1, x0, x1, x6 => if x6 < (x0.length : Int) then (if 0 ≤ x6 then ((missiveref01_Same.f ((rd_T35 x0 x6).f0) x1).bind fun t330 => (if t330 = true then (some ((rd_T35 x0 x6).f1, true)) else (missiveref09_Get.l0 k x0 x1 (wrap64 (x6 + 1))))) else (none)) else (some ((⟨#[]⟩ : ByteArray), false))
def missiveref09_Get.f (k : Nat) (l0 : List (S35)) (a1 : ByteArray) : Option (ByteArray × Bool) := missiveref09_Get.l0 k l0 a1 0
theorem missiveref09_Get.mono_l : ∀ k, (∀ y0 y1 y2, LeO (missiveref09_Get.l0 k y0 y1 y2) (missiveref09_Get.l0 (k + 1) y0 y1 y2))
  | 0 => fun _ _ _ r h => by simp [missiveref09_Get.l0] at h
  | k + 1 => by
    have ih0 := missiveref09_Get.mono_l k
    · intro y0 y1 y2
      unfold missiveref09_Get.l0
      repeat' first
      | (with_reducible exact ih0 _ _ _)
      | (with_reducible exact LeO.refl _)
      | (with_reducible exact LeO.none _)
      | (with_reducible refine LeO.ite ?_ ?_)
      | (with_reducible refine LeO.bind ?_ (fun _ => ?_))
      | exact ih0 _ _ _
      | exact LeO.none _
      | refine LeO.ite ?_ ?_
      | refine LeO.bind ?_ (fun _ => ?_)
theorem missiveref09_Get.mono : ∀ a0 a1 k, LeO (missiveref09_Get.f k a0 a1) (missiveref09_Get.f (k + 1) a0 a1) := by
  intro a0 a1 k
  have ih0 := missiveref09_Get.mono_l k
  unfold missiveref09_Get.f
  repeat' first
      | (with_reducible exact ih0 _ _ _)
      | (with_reducible exact LeO.refl _)
      | (with_reducible exact LeO.none _)
      | (with_reducible refine LeO.ite ?_ ?_)
      | (with_reducible refine LeO.bind ?_ (fun _ => ?_))
      | exact ih0 _ _ _
      | exact LeO.none _
      | refine LeO.ite ?_ ?_
      | refine LeO.bind ?_ (fun _ => ?_)
set_option maxHeartbeats 8000000 in
set_option maxRecDepth 100000 in
theorem missiveref09_Get.calls (k : Nat) (A0 : Option Addr) (c0 : Nat) (l0 : List (S35)) (a1 : ByteArray) (r1 : ByteArray) (r2 : Bool) (w : World) (hr0 : Kd.C k35 w A0 l0.length l0) (hc0 : l0.length ≤ c0) (h : missiveref09_Get.f k l0 a1 = some (r1, r2)) :
    Calls Tryz.prog 31 #[.slice A0 l0.length c0, .string a1] w fun e w' => e = .returned (.tuple #[.string r1, .bool r2]) ∧ Below w.heap.size w w' := by
  have HR0 := Aside0.mk hr0
  have HC0 := Aside0.mk hc0
  clear hr0 hc0
  have HB := Aside0.mk (Below.refl w.heap.size w)
  have H : (missiveref09_Get.l0 k l0 a1 0) = some (r1, r2) := h
  clear h
  have H' := Aside0.mk H
  clear H
  go_enter Tryz.func31, Tryz.ntmps31
  go_wp2
  go_loopg [6] k (fun kq v6 w' => ∃ (x6_1 : Int), v6 = .int .i64 x6_1 ∧ Aside0 (missiveref09_Get.l0 kq l0 a1 x6_1 = some (r1, r2)) ∧ Aside0 (kq ≤ k) ∧ Aside0 (Below w.heap.size w w'))
  case atStart => exact ⟨(0), (by first | rfl | (simp; done) | (simp [*]; done)), H', ⟨Nat.le_refl _⟩, ⟨by repeat (first | (with_reducible first | exact HB.out | apply below_alloc | apply pw_below_drewN | apply below_drew1) | exact HB.out)⟩⟩
  case round =>
    clear H'
    try clear p2
    obtain ⟨x6_1, rfl, HA, HK1, HB⟩ := hrel
    cases gk with
    | zero => exact absurd HA.out (by simp [missiveref09_Get.l0])
    | succ k1 =>
      have H := HA.out
      clear HA
      simp only [missiveref09_Get.l0] at H
      by_cases c3 : x6_1 < (l0.length : Int)
      · rw [if_pos c3] at H
        have c3b0 : decide (x6_1 < (l0.length : Int)) = true := decide_eq_true c3
        clear c3
        by_cases c4 : 0 ≤ x6_1
        · rw [if_pos c4] at H
          have c4b0 : decide (0 ≤ x6_1) = true := decide_eq_true c4
          clear c4
          replace H := Option.bind_eq_some_iff.mp H
          obtain ⟨t330, A50, H⟩ := H
          replace H : (if t330 = true then (some ((rd_T35 l0 x6_1).f1, true)) else (missiveref09_Get.l0 k1 l0 a1 (wrap64 (x6_1 + 1)))) = some (r1, r2) := H
          have A5 := Aside0.mk A50
          clear A50
          by_cases c6 : t330 = true
          · subst c6
            have H1 : (some ((rd_T35 l0 x6_1).f1, true)) = some (r1, r2) := by rw [if_pos rfl] at H; exact H
            clear H
            have H := H1
            clear H1
            simp only [Option.some.injEq, Prod.mk.injEq] at H
            obtain ⟨rfl, rfl⟩ := H
            have p329 : 0 ≤ (x6_1 : Int) := of_decide_eq_true (by first | (with_reducible assumption) | assumption)
            have q329 : x6_1 < (l0.length : Int) := of_decide_eq_true (by first | (with_reducible assumption) | assumption)
            obtain ⟨ad329, e329, hx329_0, hx329_1⟩ := at_T35 HR0.out x6_1 p329 q329
            cases e329
            replace hx329_0 := (HB.out.cell (World.block_lt_of_cell? w _ hx329_0)).trans hx329_0
            replace hx329_1 := (HB.out.cell (World.block_lt_of_cell? w _ hx329_1)).trans hx329_1
            replace p329 := eq_true p329
            replace q329 := eq_true q329
            go_wp2_with (first | ((with_reducible refine gate_callee (f := 69) rfl ?_); refine goesL_ (some 19) rfl rfl Tryz.func69 (by kernel_rfl) rfl #[.string ((rd_T35 l0 x6_1).f0), .string a1] rfl (by (try simp only [List.map_toArray, List.map_cons, List.map_nil]); first | done | rfl | (simp only [List.length_drop, List.length_take]; rfl)) ?_; (with_reducible refine (missiveref01_Same.calls ((rd_T35 l0 x6_1).f0) a1 true _ A5.out).mono ?_); rintro e w7 ⟨rfl, hb⟩; refine ⟨_, rfl, ?_⟩; have n0_ := Aside0.mk (below_step (by repeat (first | (with_reducible first | exact HB.out | apply below_alloc | apply pw_below_drewN | apply below_drew1) | exact HB.out)) hb); clear HB; have HB := n0_; clear n0_; (try clear hb); (try clear hb2); (try clear hk); (try clear hi); have p331 : 0 ≤ (x6_1 : Int) := of_decide_eq_true (by first | (with_reducible assumption) | assumption); have q331 : x6_1 < (l0.length : Int) := of_decide_eq_true (by first | (with_reducible assumption) | assumption); obtain ⟨ad331, e331, hx331_0, hx331_1⟩ := at_T35 HR0.out x6_1 p331 q331; obtain rfl : ad329 = ad331 := (by injection e331); replace hx331_0 := (HB.out.cell (World.block_lt_of_cell? w _ hx331_0)).trans hx331_0; replace hx331_1 := (HB.out.cell (World.block_lt_of_cell? w _ hx331_1)).trans hx331_1; replace p331 := eq_true p331; replace q331 := eq_true q331))
            go_ret2
            exact ⟨by first | rfl | (simp [errW_none, errW_some]; done) | (simp [errW_none, errW_some]; exact isEmpty_nbne _) | (simp [errW_none, errW_some]; exact isEmpty_bne _) | (simp [errW_none, errW_some] <;> rfl) | (simp [*, errW_none, errW_some] <;> rfl), by repeat (first | (with_reducible first | exact HB.out | apply below_alloc | apply pw_below_drewN | apply below_drew1) | exact HB.out)⟩
          · replace c6 := Bool.eq_false_iff.mpr c6
            subst c6
            have H1 : (missiveref09_Get.l0 k1 l0 a1 (wrap64 (x6_1 + 1))) = some (r1, r2) := by rw [if_neg (show ¬ (false = true) by decide)] at H; exact H
            clear H
            have H := H1
            clear H1
            have H' := Aside0.mk H
            clear H
            have p329 : 0 ≤ (x6_1 : Int) := of_decide_eq_true (by first | (with_reducible assumption) | assumption)
            have q329 : x6_1 < (l0.length : Int) := of_decide_eq_true (by first | (with_reducible assumption) | assumption)
            obtain ⟨ad329, e329, hx329_0, hx329_1⟩ := at_T35 HR0.out x6_1 p329 q329
            cases e329
            replace hx329_0 := (HB.out.cell (World.block_lt_of_cell? w _ hx329_0)).trans hx329_0
            replace hx329_1 := (HB.out.cell (World.block_lt_of_cell? w _ hx329_1)).trans hx329_1
            replace p329 := eq_true p329
            replace q329 := eq_true q329
            go_wp2_with (first | ((with_reducible refine gate_callee (f := 69) rfl ?_); refine goesL_ (some 19) rfl rfl Tryz.func69 (by kernel_rfl) rfl #[.string ((rd_T35 l0 x6_1).f0), .string a1] rfl (by (try simp only [List.map_toArray, List.map_cons, List.map_nil]); first | done | rfl | (simp only [List.length_drop, List.length_take]; rfl)) ?_; (with_reducible refine (missiveref01_Same.calls ((rd_T35 l0 x6_1).f0) a1 false _ A5.out).mono ?_); rintro e w8 ⟨rfl, hb⟩; refine ⟨_, rfl, ?_⟩; have n0_ := Aside0.mk (below_step (by repeat (first | (with_reducible first | exact HB.out | apply below_alloc | apply pw_below_drewN | apply below_drew1) | exact HB.out)) hb); clear HB; have HB := n0_; clear n0_; (try clear hb); (try clear hb2); (try clear hk); (try clear hi)))
            go_roundg k1
            case measure => have := HK1.out; omega
            case rel => exact ⟨(wrap64 (x6_1 + 1)), (by first | rfl | (simp; done) | (simp [*]; done)), H', ⟨by have := HK1.out; omega⟩, ⟨by repeat (first | (with_reducible first | exact HB.out | apply below_alloc | apply pw_below_drewN | apply below_drew1) | exact HB.out)⟩⟩
        · rw [if_neg c4] at H
          exact absurd H (by simp)
      · rw [if_neg c3] at H
        have c3b0 : decide (x6_1 < (l0.length : Int)) = false := decide_eq_false c3
        clear c3
        simp only [Option.some.injEq, Prod.mk.injEq] at H
        obtain ⟨rfl, rfl⟩ := H
        go_wp2
        go_ret2
        exact ⟨by first | rfl | (simp [errW_none, errW_some]; done) | (simp [errW_none, errW_some]; exact isEmpty_nbne _) | (simp [errW_none, errW_some]; exact isEmpty_bne _) | (simp [errW_none, errW_some] <;> rfl) | (simp [*, errW_none, errW_some] <;> rfl), by repeat (first | (with_reducible first | exact HB.out | apply below_alloc | apply pw_below_drewN | apply below_drew1) | exact HB.out)⟩
def missiveref09_All.l0 : Nat → List (S35) → ByteArray → List ByteArray → Int → Option (List ByteArray)
  | 0, _, _, _, _ => none
  | k + 1, x0, x1, x5, x6 => if x6 < (x0.length : Int) then (if 0 ≤ x6 then ((missiveref01_Same.f ((rd_T35 x0 x6).f0) x1).bind fun t341 => (if t341 = true then (if x5.length < 8796093022208 then (missiveref09_All.l0 k x0 x1 (x5 ++ [(rd_T35 x0 x6).f1]) (wrap64 (x6 + 1))) else (none)) else (missiveref09_All.l0 k x0 x1 x5 (wrap64 (x6 + 1))))) else (none)) else (some x5)
def missiveref09_All.f (k : Nat) (l0 : List (S35)) (a1 : ByteArray) : Option (List ByteArray) := missiveref09_All.l0 k l0 a1 ([] : List ByteArray) 0
theorem missiveref09_All.mono_l : ∀ k, (∀ y0 y1 y2 y3, LeO (missiveref09_All.l0 k y0 y1 y2 y3) (missiveref09_All.l0 (k + 1) y0 y1 y2 y3))
  | 0 => fun _ _ _ _ r h => by simp [missiveref09_All.l0] at h
  | k + 1 => by
    have ih0 := missiveref09_All.mono_l k
    · intro y0 y1 y2 y3
      unfold missiveref09_All.l0
      repeat' first
      | (with_reducible exact ih0 _ _ _ _)
      | (with_reducible exact LeO.refl _)
      | (with_reducible exact LeO.none _)
      | (with_reducible refine LeO.ite ?_ ?_)
      | (with_reducible refine LeO.bind ?_ (fun _ => ?_))
      | exact ih0 _ _ _ _
      | exact LeO.none _
      | refine LeO.ite ?_ ?_
      | refine LeO.bind ?_ (fun _ => ?_)
theorem missiveref09_All.mono : ∀ a0 a1 k, LeO (missiveref09_All.f k a0 a1) (missiveref09_All.f (k + 1) a0 a1) := by
  intro a0 a1 k
  have ih0 := missiveref09_All.mono_l k
  unfold missiveref09_All.f
  repeat' first
      | (with_reducible exact ih0 _ _ _ _)
      | (with_reducible exact LeO.refl _)
      | (with_reducible exact LeO.none _)
      | (with_reducible refine LeO.ite ?_ ?_)
      | (with_reducible refine LeO.bind ?_ (fun _ => ?_))
      | exact ih0 _ _ _ _
      | exact LeO.none _
      | refine LeO.ite ?_ ?_
      | refine LeO.bind ?_ (fun _ => ?_)
set_option maxHeartbeats 8000000 in
set_option maxRecDepth 100000 in
theorem missiveref09_All.calls (k : Nat) (A0 : Option Addr) (c0 : Nat) (l0 : List (S35)) (a1 : ByteArray) (r : List ByteArray) (w : World) (hr0 : Kd.C k35 w A0 l0.length l0) (hc0 : l0.length ≤ c0) (h : missiveref09_All.f k l0 a1 = some r) :
    Calls Tryz.prog 34 #[.slice A0 l0.length c0, .string a1] w fun e w' => ∃ v0_ : Value, e = .returned (v0_) ∧ Kd.R Kd.string 9 w' w.heap.size (fun _ => True) v0_ r ∧ Below w.heap.size w w' := by
  have HR0 := Aside0.mk hr0
  have HC0 := Aside0.mk hc0
  clear hr0 hc0
  have HB := Aside0.mk (Below.refl w.heap.size w)
  have H : (missiveref09_All.l0 k l0 a1 ([] : List ByteArray) 0) = some r := h
  clear h
  have H' := Aside0.mk H
  clear H
  go_enter Tryz.func34, Tryz.ntmps34
  go_wp2
  go_loopg [5, 6] k (fun kq v5 v6 w' => ∃ (x5_1 : List ByteArray) (x6_1 : Int), v6 = .int .i64 x6_1 ∧ Aside0 (missiveref09_All.l0 kq l0 a1 x5_1 x6_1 = some r) ∧ Aside0 (kq ≤ k) ∧ Aside0 (Kd.R Kd.string 9 w' w.heap.size (fun _ => True) v5 x5_1) ∧ Aside0 (Below w.heap.size w w'))
  case atStart => exact ⟨(([] : List ByteArray)), (0), (by first | rfl | (simp; done) | (simp [*]; done)), H', ⟨Nat.le_refl _⟩, ⟨by first | exact Kd.R_nil _ _ _ _ _ | exact Kd.N_nil _ _ _ _ _ | exact Kd.V_nil _ _ _ _ _ | exact Kd.Q_nil _ _ _ _ _ | exact Kd.S_nil _ _ _ _ _⟩, ⟨by repeat (first | (with_reducible first | exact HB.out | apply below_alloc | apply pw_below_drewN | apply below_drew1) | exact HB.out)⟩⟩
  case round =>
    clear H'
    try clear p2
    obtain ⟨x5_1, x6_1, rfl, HA, HK1, HO_5, HB⟩ := hrel
    cases gk with
    | zero => exact absurd HA.out (by simp [missiveref09_All.l0])
    | succ k1 =>
      have H := HA.out
      clear HA
      simp only [missiveref09_All.l0] at H
      by_cases c3 : x6_1 < (l0.length : Int)
      · rw [if_pos c3] at H
        have c3b0 : decide (x6_1 < (l0.length : Int)) = true := decide_eq_true c3
        clear c3
        by_cases c4 : 0 ≤ x6_1
        · rw [if_pos c4] at H
          have c4b0 : decide (0 ≤ x6_1) = true := decide_eq_true c4
          clear c4
          replace H := Option.bind_eq_some_iff.mp H
          obtain ⟨t341, A50, H⟩ := H
          replace H : (if t341 = true then (if x5_1.length < 8796093022208 then (missiveref09_All.l0 k1 l0 a1 (x5_1 ++ [(rd_T35 l0 x6_1).f1]) (wrap64 (x6_1 + 1))) else (none)) else (missiveref09_All.l0 k1 l0 a1 x5_1 (wrap64 (x6_1 + 1)))) = some r := H
          have A5 := Aside0.mk A50
          clear A50
          by_cases c6 : t341 = true
          · subst c6
            have H1 : (if x5_1.length < 8796093022208 then (missiveref09_All.l0 k1 l0 a1 (x5_1 ++ [(rd_T35 l0 x6_1).f1]) (wrap64 (x6_1 + 1))) else (none)) = some r := by rw [if_pos rfl] at H; exact H
            clear H
            have H := H1
            clear H1
            by_cases c7 : x5_1.length < 8796093022208
            · rw [if_pos c7] at H
              have LMc7 := Aside0.mk c7
              clear c7
              obtain ⟨y343, hy343⟩ : ∃ y_ : List ByteArray, y_ = (x5_1 ++ [(rd_T35 l0 x6_1).f1]) := ⟨_, rfl⟩
              replace H : (missiveref09_All.l0 k1 l0 a1 y343 (wrap64 (x6_1 + 1))) = some r := by first | (rw [hy343]; with_reducible exact H) | (have H2_ := (Option.bind_some _ _).symm.trans H; rw [hy343]; with_reducible exact H2_) | (have H2_ := (Option.bind_some _ _).symm.trans H; with_reducible exact H2_) | with_reducible exact H | (rw [hy343]; exact H) | exact H
              have Ny343 := Aside0.mk hy343
              clear hy343
              have H' := Aside0.mk H
              clear H
              have p340 : 0 ≤ (x6_1 : Int) := of_decide_eq_true (by first | (with_reducible assumption) | assumption)
              have q340 : x6_1 < (l0.length : Int) := of_decide_eq_true (by first | (with_reducible assumption) | assumption)
              obtain ⟨ad340, e340, hx340_0, hx340_1⟩ := at_T35 HR0.out x6_1 p340 q340
              cases e340
              replace hx340_0 := (HB.out.cell (World.block_lt_of_cell? w _ hx340_0)).trans hx340_0
              replace hx340_1 := (HB.out.cell (World.block_lt_of_cell? w _ hx340_1)).trans hx340_1
              replace p340 := eq_true p340
              replace q340 := eq_true q340
              go_wp2_with (first | ((with_reducible refine gate_callee (f := 69) rfl ?_); refine goesL_ (some 19) rfl rfl Tryz.func69 (by kernel_rfl) rfl #[.string ((rd_T35 l0 x6_1).f0), .string a1] rfl (by (try simp only [List.map_toArray, List.map_cons, List.map_nil]); first | done | rfl | (simp only [List.length_drop, List.length_take]; rfl)) ?_; (with_reducible refine (missiveref01_Same.calls ((rd_T35 l0 x6_1).f0) a1 true _ A5.out).mono ?_); rintro e w8 ⟨rfl, hb⟩; refine ⟨_, rfl, ?_⟩; have n0_ := Aside0.mk (Kd.R_below (by (with_reducible repeat (first | apply Kd.R_alloc | apply Kd.R_drewN | apply Kd.R_drew)); exact HO_5.out) hb); have n1_ := Aside0.mk (below_step (by repeat (first | (with_reducible first | exact HB.out | apply below_alloc | apply pw_below_drewN | apply below_drew1) | exact HB.out)) hb); clear HO_5; clear HB; have HO_5 := n0_; have HB := n1_; clear n0_ n1_; (try clear hb); (try clear hb2); (try clear hk); (try clear hi); have p342 : 0 ≤ (x6_1 : Int) := of_decide_eq_true (by first | (with_reducible assumption) | assumption); have q342 : x6_1 < (l0.length : Int) := of_decide_eq_true (by first | (with_reducible assumption) | assumption); obtain ⟨ad342, e342, hx342_0, hx342_1⟩ := at_T35 HR0.out x6_1 p342 q342; obtain rfl : ad340 = ad342 := (by injection e342); replace hx342_0 := (HB.out.cell (World.block_lt_of_cell? w _ hx342_0)).trans hx342_0; replace hx342_1 := (HB.out.cell (World.block_lt_of_cell? w _ hx342_1)).trans hx342_1; replace p342 := eq_true p342; replace q342 := eq_true q342) | ((with_reducible refine gate_builtin (b := .append) (xs := #[.tmp 20, .tmp 26]) rfl ?_); at_builtin; refine Kd.R_append Kd.string (w0 := w) w.heap.size rfl (.tmp 20) (.tmp 26) 42 9 (.string ⟨#[]⟩) 16 rfl Tryz.underlying42 info9 rfl (by decide) (by omega) u5 x5_1 ((rd_T35 l0 x6_1).f1) [.string ((rd_T35 l0 x6_1).f1)] (fun _ => True) (fun _ => False) rfl rfl ?aP (fun _ hk => hk.elim) ?aF ?aO ?aB ?aS ?aL ?_; (case aP => exact rfl); (case aB => exact (by repeat (first | (with_reducible first | exact HB.out | apply below_alloc | apply pw_below_drewN | apply below_drew1) | exact HB.out))); (case aF => exact (fun _ _ => trivial)); (case aO => exact (by (with_reducible repeat (first | apply Kd.R_alloc | apply Kd.R_drewN | apply Kd.R_drew)); exact HO_5.out)); (case aS => exact (below_size (by repeat (first | (with_reducible first | exact HB.out | apply below_alloc | apply pw_below_drewN | apply below_drew1) | exact HB.out)))); (case aL => have := LMc7.out; omega); intro v344 w9 ho hb hg hat; rw [← Ny343.out] at ho; have n0_ := Aside0.mk (hb); have n1_ := Aside0.mk (ho); clear HB; clear HO_5; have HB := n0_; have HO345 := n1_; clear n0_ n1_; clear ho hb hg hat))
              go_roundg k1
              case measure => have := HK1.out; omega
              case rel => exact ⟨(y343), (wrap64 (x6_1 + 1)), (by first | rfl | (simp; done) | (simp [*]; done)), H', ⟨by have := HK1.out; omega⟩, ⟨by (with_reducible repeat (first | apply Kd.R_alloc | apply Kd.R_drewN | apply Kd.R_drew)); exact HO345.out⟩, ⟨by repeat (first | (with_reducible first | exact HB.out | apply below_alloc | apply pw_below_drewN | apply below_drew1) | exact HB.out)⟩⟩
            · rw [if_neg c7] at H
              exact absurd H (by simp)
          · replace c6 := Bool.eq_false_iff.mpr c6
            subst c6
            have H1 : (missiveref09_All.l0 k1 l0 a1 x5_1 (wrap64 (x6_1 + 1))) = some r := by rw [if_neg (show ¬ (false = true) by decide)] at H; exact H
            clear H
            have H := H1
            clear H1
            have H' := Aside0.mk H
            clear H
            have p340 : 0 ≤ (x6_1 : Int) := of_decide_eq_true (by first | (with_reducible assumption) | assumption)
            have q340 : x6_1 < (l0.length : Int) := of_decide_eq_true (by first | (with_reducible assumption) | assumption)
            obtain ⟨ad340, e340, hx340_0, hx340_1⟩ := at_T35 HR0.out x6_1 p340 q340
            cases e340
            replace hx340_0 := (HB.out.cell (World.block_lt_of_cell? w _ hx340_0)).trans hx340_0
            replace hx340_1 := (HB.out.cell (World.block_lt_of_cell? w _ hx340_1)).trans hx340_1
            replace p340 := eq_true p340
            replace q340 := eq_true q340
            go_wp2_with (first | ((with_reducible refine gate_callee (f := 69) rfl ?_); refine goesL_ (some 19) rfl rfl Tryz.func69 (by kernel_rfl) rfl #[.string ((rd_T35 l0 x6_1).f0), .string a1] rfl (by (try simp only [List.map_toArray, List.map_cons, List.map_nil]); first | done | rfl | (simp only [List.length_drop, List.length_take]; rfl)) ?_; (with_reducible refine (missiveref01_Same.calls ((rd_T35 l0 x6_1).f0) a1 false _ A5.out).mono ?_); rintro e w10 ⟨rfl, hb⟩; refine ⟨_, rfl, ?_⟩; have n0_ := Aside0.mk (Kd.R_below (by (with_reducible repeat (first | apply Kd.R_alloc | apply Kd.R_drewN | apply Kd.R_drew)); exact HO_5.out) hb); have n1_ := Aside0.mk (below_step (by repeat (first | (with_reducible first | exact HB.out | apply below_alloc | apply pw_below_drewN | apply below_drew1) | exact HB.out)) hb); clear HO_5; clear HB; have HO_5 := n0_; have HB := n1_; clear n0_ n1_; (try clear hb); (try clear hb2); (try clear hk); (try clear hi)))
            go_roundg k1
            case measure => have := HK1.out; omega
            case rel => exact ⟨(x5_1), (wrap64 (x6_1 + 1)), (by first | rfl | (simp; done) | (simp [*]; done)), H', ⟨by have := HK1.out; omega⟩, ⟨by (with_reducible repeat (first | apply Kd.R_alloc | apply Kd.R_drewN | apply Kd.R_drew)); exact HO_5.out⟩, ⟨by repeat (first | (with_reducible first | exact HB.out | apply below_alloc | apply pw_below_drewN | apply below_drew1) | exact HB.out)⟩⟩
        · rw [if_neg c4] at H
          exact absurd H (by simp)
      · rw [if_neg c3] at H
        have c3b0 : decide (x6_1 < (l0.length : Int)) = false := decide_eq_false c3
        clear c3
        obtain rfl := Option.some.inj H
        go_wp2
        go_ret
        exact ⟨_, by first | rfl | (simp [errW_none, errW_some]; done) | (simp [errW_none, errW_some]; exact isEmpty_nbne _) | (simp [errW_none, errW_some]; exact isEmpty_bne _) | (simp [errW_none, errW_some] <;> rfl) | (simp [*, errW_none, errW_some] <;> rfl), by (with_reducible repeat (first | apply Kd.R_alloc | apply Kd.R_drewN | apply Kd.R_drew)); exact HO_5.out, by repeat (first | (with_reducible first | exact HB.out | apply below_alloc | apply pw_below_drewN | apply below_drew1) | exact HB.out)⟩
end Go.Proofs.YtieompfmhnpnaaaGreat.H
end
section
namespace Go.Proofs.YtieompfmhnpnaaaGreat.H
open Go.RowKit Go.Proofs.YtieompfmhnpnaaaGreatW.PrintWords Go.Proofs.YtieompfmhnpnaaaGreatW.PrintLast Go.Proofs.YtieompfmhnpnaaaGreatW.PrintMore
attribute [local go_sem] max2_int min2_int max_two min_two max_three min_three max_four min_four
set_option linter.unusedVariables false
set_option linter.unusedSimpArgs false
mutual
def missiveref09_Set.l0 : Nat → List (S35) → ByteArray → ByteArray → List (S35) → Bool → Int → Option ((List (S35)))
  | 0, _, _, _, _, _, _ => none
  | k + 1, x0, x1, x2, x7, x8, x9 => if x9 < (x0.length : Int) then (if 0 ≤ x9 then ((missiveref01_Same.f ((rd_T35 x0 x9).f0) x1).bind fun t362 => (if t362 = true then (missiveref09_Set.j1 k x0 x1 x2 x7 x8 x9 t362 (!x8)) else (missiveref09_Set.j1 k x0 x1 x2 x7 x8 x9 t362 false))) else (none)) else (if x8 = true then (some x7) else (if x7.length < 4398046511104 then (some (x7 ++ [(⟨x1, x2⟩ : S35)])) else (none)))
def missiveref09_Set.j1 : Nat → List (S35) → ByteArray → ByteArray → List (S35) → Bool → Int → Bool → Bool → Option ((List (S35)))
  | 0, _, _, _, _, _, _, _, _ => none
  | k + 1, x0, x1, x2, x7, x8, x9, x10, x28 => if x28 = true then (if x7.length < 4398046511104 then (missiveref09_Set.l0 k x0 x1 x2 (x7 ++ [(⟨x1, x2⟩ : S35)]) true (wrap64 (x9 + 1))) else (none)) else (if x10 = true then (missiveref09_Set.l0 k x0 x1 x2 x7 x8 (wrap64 (x9 + 1))) else (if 0 ≤ x9 then (if x9 < (x0.length : Int) then (if x7.length < 4398046511104 then (missiveref09_Set.l0 k x0 x1 x2 (x7 ++ [(⟨(rd_T35 x0 x9).f0, (rd_T35 x0 x9).f1⟩ : S35)]) x8 (wrap64 (x9 + 1))) else (none)) else (none)) else (none)))
end
def missiveref09_Set.f (k : Nat) (l0 : List (S35)) (a1 : ByteArray) (a2 : ByteArray) : Option ((List (S35))) := missiveref09_Set.l0 k l0 a1 a2 ([] : List (S35)) false 0
theorem missiveref09_Set.mono_l : ∀ k, (∀ y0 y1 y2 y3 y4 y5, LeO (missiveref09_Set.l0 k y0 y1 y2 y3 y4 y5) (missiveref09_Set.l0 (k + 1) y0 y1 y2 y3 y4 y5)) ∧ (∀ y0 y1 y2 y3 y4 y5 y6 y7, LeO (missiveref09_Set.j1 k y0 y1 y2 y3 y4 y5 y6 y7) (missiveref09_Set.j1 (k + 1) y0 y1 y2 y3 y4 y5 y6 y7))
  | 0 => ⟨fun _ _ _ _ _ _ r h => by simp [missiveref09_Set.l0] at h, fun _ _ _ _ _ _ _ _ r h => by simp [missiveref09_Set.j1] at h⟩
  | k + 1 => by
    obtain ⟨ih0, ih1⟩ := missiveref09_Set.mono_l k
    refine ⟨?_, ?_⟩
    · intro y0 y1 y2 y3 y4 y5
      unfold missiveref09_Set.l0
      repeat' first
      | (with_reducible exact ih0 _ _ _ _ _ _)
      | (with_reducible exact ih1 _ _ _ _ _ _ _ _)
      | (with_reducible exact LeO.refl _)
      | (with_reducible exact LeO.none _)
      | (with_reducible refine LeO.ite ?_ ?_)
      | (with_reducible refine LeO.bind ?_ (fun _ => ?_))
      | exact ih0 _ _ _ _ _ _
      | exact ih1 _ _ _ _ _ _ _ _
      | exact LeO.none _
      | refine LeO.ite ?_ ?_
      | refine LeO.bind ?_ (fun _ => ?_)
    · intro y0 y1 y2 y3 y4 y5 y6 y7
      unfold missiveref09_Set.j1
      repeat' first
      | (with_reducible exact ih0 _ _ _ _ _ _)
      | (with_reducible exact ih1 _ _ _ _ _ _ _ _)
      | (with_reducible exact LeO.refl _)
      | (with_reducible exact LeO.none _)
      | (with_reducible refine LeO.ite ?_ ?_)
      | (with_reducible refine LeO.bind ?_ (fun _ => ?_))
      | exact ih0 _ _ _ _ _ _
      | exact ih1 _ _ _ _ _ _ _ _
      | exact LeO.none _
      | refine LeO.ite ?_ ?_
      | refine LeO.bind ?_ (fun _ => ?_)
theorem missiveref09_Set.mono : ∀ a0 a1 a2 k, LeO (missiveref09_Set.f k a0 a1 a2) (missiveref09_Set.f (k + 1) a0 a1 a2) := by
  intro a0 a1 a2 k
  obtain ⟨ih0, ih1⟩ := missiveref09_Set.mono_l k
  unfold missiveref09_Set.f
  repeat' first
      | (with_reducible exact ih0 _ _ _ _ _ _)
      | (with_reducible exact ih1 _ _ _ _ _ _ _ _)
      | (with_reducible exact LeO.refl _)
      | (with_reducible exact LeO.none _)
      | (with_reducible refine LeO.ite ?_ ?_)
      | (with_reducible refine LeO.bind ?_ (fun _ => ?_))
      | exact ih0 _ _ _ _ _ _
      | exact ih1 _ _ _ _ _ _ _ _
      | exact LeO.none _
      | refine LeO.ite ?_ ?_
      | refine LeO.bind ?_ (fun _ => ?_)
set_option maxHeartbeats 8000000 in
set_option maxRecDepth 100000 in
theorem missiveref09_Set.calls (k : Nat) (A0 : Option Addr) (c0 : Nat) (l0 : List (S35)) (a1 : ByteArray) (a2 : ByteArray) (r : List (S35)) (w : World) (hr0 : Kd.C k35 w A0 l0.length l0) (hc0 : l0.length ≤ c0) (h : missiveref09_Set.f k l0 a1 a2 = some r) :
    Calls Tryz.prog 36 #[.slice A0 l0.length c0, .string a1, .string a2] w fun e w' => ∃ v0_ : Value, e = .returned (v0_) ∧ Kd.R k35 35 w' w.heap.size (fun _ => True) v0_ r ∧ Below w.heap.size w w' := by
  have hu35 := Tryz.underlying35
  have HR0 := Aside0.mk hr0
  have HC0 := Aside0.mk hc0
  clear hr0 hc0
  have HB := Aside0.mk (Below.refl w.heap.size w)
  have H : (missiveref09_Set.l0 k l0 a1 a2 ([] : List (S35)) false 0) = some r := h
  clear h
  have H' := Aside0.mk H
  clear H
  go_enter Tryz.func36, Tryz.ntmps36
  go_wp2
  go_loopg [7, 8, 9] k (fun kq v7 v8 v9 w' => ∃ (x7_1 : List (S35)) (x8_1 : Bool) (x9_1 : Int), v8 = .bool x8_1 ∧ v9 = .int .i64 x9_1 ∧ Aside0 (missiveref09_Set.l0 kq l0 a1 a2 x7_1 x8_1 x9_1 = some r) ∧ Aside0 (kq ≤ k) ∧ Aside0 (Kd.R k35 35 w' w.heap.size (fun _ => True) v7 x7_1) ∧ Aside0 (Below w.heap.size w w'))
  case atStart => exact ⟨(([] : List (S35))), (false), (0), (by first | rfl | (simp; done) | (simp [*]; done)), (by first | rfl | (simp; done) | (simp [*]; done)), H', ⟨Nat.le_refl _⟩, ⟨by first | exact Kd.R_nil _ _ _ _ _ | exact Kd.N_nil _ _ _ _ _ | exact Kd.V_nil _ _ _ _ _ | exact Kd.Q_nil _ _ _ _ _ | exact Kd.S_nil _ _ _ _ _⟩, ⟨by repeat (first | (with_reducible first | exact HB.out | apply below_alloc | apply pw_below_drewN | apply below_drew1) | exact HB.out)⟩⟩
  case round =>
    clear H'
    try clear p2
    try clear c3
    obtain ⟨x7_1, x8_1, x9_1, rfl, rfl, HA, HK1, HO_7, HB⟩ := hrel
    cases gk with
    | zero => exact absurd HA.out (by simp [missiveref09_Set.l0])
    | succ k1 =>
      have H := HA.out
      clear HA
      simp only [missiveref09_Set.l0] at H
      by_cases c4 : x9_1 < (l0.length : Int)
      · rw [if_pos c4] at H
        have c4b0 : decide (x9_1 < (l0.length : Int)) = true := decide_eq_true c4
        clear c4
        by_cases c5 : 0 ≤ x9_1
        · rw [if_pos c5] at H
          have c5b0 : decide (0 ≤ x9_1) = true := decide_eq_true c5
          clear c5
          replace H := Option.bind_eq_some_iff.mp H
          obtain ⟨t362, A60, H⟩ := H
          replace H : (if t362 = true then (missiveref09_Set.j1 k1 l0 a1 a2 x7_1 x8_1 x9_1 t362 (!x8_1)) else (missiveref09_Set.j1 k1 l0 a1 a2 x7_1 x8_1 x9_1 t362 false)) = some r := H
          have A6 := Aside0.mk A60
          clear A60
          have HC7 := Aside0.mk H
          clear H
          have p361 : 0 ≤ (x9_1 : Int) := of_decide_eq_true (by first | (with_reducible assumption) | assumption)
          have q361 : x9_1 < (l0.length : Int) := of_decide_eq_true (by first | (with_reducible assumption) | assumption)
          obtain ⟨ad361, e361, hx361_0, hx361_1⟩ := at_T35 HR0.out x9_1 p361 q361
          cases e361
          replace hx361_0 := (HB.out.cell (World.block_lt_of_cell? w _ hx361_0)).trans hx361_0
          replace hx361_1 := (HB.out.cell (World.block_lt_of_cell? w _ hx361_1)).trans hx361_1
          replace p361 := eq_true p361
          replace q361 := eq_true q361
          go_upto_region 7 with (first | ((with_reducible refine gate_callee (f := 69) rfl ?_); refine goesL_ (some 23) rfl rfl Tryz.func69 (by kernel_rfl) rfl #[.string ((rd_T35 l0 x9_1).f0), .string a1] rfl (by (try simp only [List.map_toArray, List.map_cons, List.map_nil]); first | done | rfl | (simp only [List.length_drop, List.length_take]; rfl)) ?_; (with_reducible refine (missiveref01_Same.calls ((rd_T35 l0 x9_1).f0) a1 t362 _ A6.out).mono ?_); rintro e w8 ⟨rfl, hb⟩; refine ⟨_, rfl, ?_⟩; have n0_ := Aside0.mk (Kd.R_below (by (with_reducible repeat (first | apply Kd.R_alloc | apply Kd.R_drewN | apply Kd.R_drew)); exact HO_7.out) hb); have n1_ := Aside0.mk (below_step (by repeat (first | (with_reducible first | exact HB.out | apply below_alloc | apply pw_below_drewN | apply below_drew1) | exact HB.out)) hb); clear HO_7; clear HB; have HO_7 := n0_; have HB := n1_; clear n0_ n1_; (try clear hb); (try clear hb2); (try clear hk); (try clear hi)))
          (try simp only [Act.put, List.setIfInBounds_toArray, List.set_cons_zero, List.set_cons_succ])
          go_cut [28] (fun v28 wc => ∃ (kq : Nat) (x28_6 : Bool), v28 = .bool x28_6 ∧ Aside0 (missiveref09_Set.j1 kq l0 a1 a2 x7_1 x8_1 x9_1 t362 x28_6 = some r) ∧ Aside0 (kq ≤ k1) ∧ Aside0 (Kd.R k35 35 wc w.heap.size (fun _ => True) u7 x7_1) ∧ Aside0 (Below w.heap.size w wc))
          case first =>
            have H := HC7.out
            clear HC7
            by_cases c9 : t362 = true
            · subst c9
              have H1 : (missiveref09_Set.j1 k1 l0 a1 a2 x7_1 x8_1 x9_1 true (!x8_1)) = some r := by rw [if_pos rfl] at H; exact H
              clear H
              have H := H1
              clear H1
              have H' := Aside0.mk H
              clear H
              go_wp2
              go_meet
              case rel => exact ⟨_, (!x8_1), (by first | rfl | (simp; done) | (simp [*]; done)), H', ⟨by have := HK1.out; first | omega | exact Nat.le_refl _⟩, ⟨by (with_reducible repeat (first | apply Kd.R_alloc | apply Kd.R_drewN | apply Kd.R_drew)); exact HO_7.out⟩, ⟨by repeat (first | (with_reducible first | exact HB.out | apply below_alloc | apply pw_below_drewN | apply below_drew1) | exact HB.out)⟩⟩
            · replace c9 := Bool.eq_false_iff.mpr c9
              subst c9
              have H1 : (missiveref09_Set.j1 k1 l0 a1 a2 x7_1 x8_1 x9_1 false false) = some r := by rw [if_neg (show ¬ (false = true) by decide)] at H; exact H
              clear H
              have H := H1
              clear H1
              have H' := Aside0.mk H
              clear H
              go_wp2
              go_meet
              case rel => exact ⟨_, (false), (by first | rfl | (simp; done) | (simp [*]; done)), H', ⟨by have := HK1.out; first | omega | exact Nat.le_refl _⟩, ⟨by (with_reducible repeat (first | apply Kd.R_alloc | apply Kd.R_drewN | apply Kd.R_drew)); exact HO_7.out⟩, ⟨by repeat (first | (with_reducible first | exact HB.out | apply below_alloc | apply pw_below_drewN | apply below_drew1) | exact HB.out)⟩⟩
          case rest =>
            clear HC7
            try clear p2
            try clear c3
            try clear p3
            try clear q3
            try clear hx3
            try clear c4
            try clear c4b0
            try clear c5
            try clear c5b0
            try clear c6
            try clear c9
            try clear hx361_0
            try clear hx361_1
            try clear p2
            try clear p361
            try clear q361
            obtain ⟨kq, x28_6, rfl, HA, HJ6, HO_7, HB⟩ := hcut
            cases kq with
            | zero => exact absurd HA.out (by simp [missiveref09_Set.j1])
            | succ kj6 =>
              have H := HA.out
              clear HA
              simp only [missiveref09_Set.j1] at H
              by_cases c10 : x28_6 = true
              · subst c10
                have H1 : (if x7_1.length < 4398046511104 then (missiveref09_Set.l0 kj6 l0 a1 a2 (x7_1 ++ [(⟨a1, a2⟩ : S35)]) true (wrap64 (x9_1 + 1))) else (none)) = some r := by rw [if_pos rfl] at H; exact H
                clear H
                have H := H1
                clear H1
                by_cases c11 : x7_1.length < 4398046511104
                · rw [if_pos c11] at H
                  have LMc11 := Aside0.mk c11
                  clear c11
                  obtain ⟨y363, hy363⟩ : ∃ y_ : List (S35), y_ = (x7_1 ++ [(⟨a1, a2⟩ : S35)]) := ⟨_, rfl⟩
                  replace H : (missiveref09_Set.l0 kj6 l0 a1 a2 y363 true (wrap64 (x9_1 + 1))) = some r := by first | (rw [hy363]; with_reducible exact H) | (have H2_ := (Option.bind_some _ _).symm.trans H; rw [hy363]; with_reducible exact H2_) | (have H2_ := (Option.bind_some _ _).symm.trans H; with_reducible exact H2_) | with_reducible exact H | (rw [hy363]; exact H) | exact H
                  have Ny363 := Aside0.mk hy363
                  clear hy363
                  have H' := Aside0.mk H
                  clear H
                  go_wp2_with (first | ((with_reducible refine gate_builtin (b := .append) (xs := #[.tmp 29, .tmp 33]) rfl ?_); at_builtin; refine Kd.R_append k35 (w0 := w) w.heap.size rfl (.tmp 29) (.tmp 33) 33 35 (.agg #[(.string ⟨#[]⟩), (.string ⟨#[]⟩)]) 32 rfl Tryz.underlying33 info35 rfl (by decide) (by omega) u7 x7_1 (⟨a1, a2⟩ : S35) [.string a1, .string a2] (fun _ => True) (fun _ => False) rfl rfl ?aP (fun _ hk => hk.elim) ?aF ?aO ?aB ?aS ?aL ?_; (case aP => exact k35_mkM _ _ _ (⟨a1, a2⟩ : S35)); (case aB => exact (by repeat (first | (with_reducible first | exact HB.out | apply below_alloc | apply pw_below_drewN | apply below_drew1) | exact HB.out))); (case aF => exact (fun _ _ => trivial)); (case aO => exact (by (with_reducible repeat (first | apply Kd.R_alloc | apply Kd.R_drewN | apply Kd.R_drew)); exact HO_7.out)); (case aS => exact (below_size (by repeat (first | (with_reducible first | exact HB.out | apply below_alloc | apply pw_below_drewN | apply below_drew1) | exact HB.out)))); (case aL => have := LMc11.out; omega); intro v364 w12 ho hb hg hat; rw [← Ny363.out] at ho; have n0_ := Aside0.mk (hb); have n1_ := Aside0.mk (ho); clear HB; clear HO_7; have HB := n0_; have HO365 := n1_; clear n0_ n1_; clear ho hb hg hat))
                  go_roundg kj6
                  case measure => have := HK1.out; have := HJ6.out; omega
                  case rel => exact ⟨(y363), (true), (wrap64 (x9_1 + 1)), (by first | rfl | (simp; done) | (simp [*]; done)), (by first | rfl | (simp; done) | (simp [*]; done)), H', ⟨by have := HK1.out; have := HJ6.out; omega⟩, ⟨by (with_reducible repeat (first | apply Kd.R_alloc | apply Kd.R_drewN | apply Kd.R_drew)); exact HO365.out⟩, ⟨by repeat (first | (with_reducible first | exact HB.out | apply below_alloc | apply pw_below_drewN | apply below_drew1) | exact HB.out)⟩⟩
                · rw [if_neg c11] at H
                  exact absurd H (by simp)
              · replace c10 := Bool.eq_false_iff.mpr c10
                subst c10
                have H1 : (if t362 = true then (missiveref09_Set.l0 kj6 l0 a1 a2 x7_1 x8_1 (wrap64 (x9_1 + 1))) else (if 0 ≤ x9_1 then (if x9_1 < (l0.length : Int) then (if x7_1.length < 4398046511104 then (missiveref09_Set.l0 kj6 l0 a1 a2 (x7_1 ++ [(⟨(rd_T35 l0 x9_1).f0, (rd_T35 l0 x9_1).f1⟩ : S35)]) x8_1 (wrap64 (x9_1 + 1))) else (none)) else (none)) else (none))) = some r := by rw [if_neg (show ¬ (false = true) by decide)] at H; exact H
                clear H
                have H := H1
                clear H1
                by_cases c13 : t362 = true
                · subst c13
                  have H1 : (missiveref09_Set.l0 kj6 l0 a1 a2 x7_1 x8_1 (wrap64 (x9_1 + 1))) = some r := by rw [if_pos rfl] at H; exact H
                  clear H
                  have H := H1
                  clear H1
                  have H' := Aside0.mk H
                  clear H
                  go_wp2
                  go_roundg kj6
                  case measure => have := HK1.out; have := HJ6.out; omega
                  case rel => exact ⟨(x7_1), (x8_1), (wrap64 (x9_1 + 1)), (by first | rfl | (simp; done) | (simp [*]; done)), (by first | rfl | (simp; done) | (simp [*]; done)), H', ⟨by have := HK1.out; have := HJ6.out; omega⟩, ⟨by (with_reducible repeat (first | apply Kd.R_alloc | apply Kd.R_drewN | apply Kd.R_drew)); exact HO_7.out⟩, ⟨by repeat (first | (with_reducible first | exact HB.out | apply below_alloc | apply pw_below_drewN | apply below_drew1) | exact HB.out)⟩⟩
                · replace c13 := Bool.eq_false_iff.mpr c13
                  subst c13
                  have H1 : (if 0 ≤ x9_1 then (if x9_1 < (l0.length : Int) then (if x7_1.length < 4398046511104 then (missiveref09_Set.l0 kj6 l0 a1 a2 (x7_1 ++ [(⟨(rd_T35 l0 x9_1).f0, (rd_T35 l0 x9_1).f1⟩ : S35)]) x8_1 (wrap64 (x9_1 + 1))) else (none)) else (none)) else (none)) = some r := by rw [if_neg (show ¬ (false = true) by decide)] at H; exact H
                  clear H
                  have H := H1
                  clear H1
                  by_cases c14 : 0 ≤ x9_1
                  · rw [if_pos c14] at H
                    have c14b0 : decide (0 ≤ x9_1) = true := decide_eq_true c14
                    clear c14
                    by_cases c15 : x9_1 < (l0.length : Int)
                    · rw [if_pos c15] at H
                      have c15b0 : decide (x9_1 < (l0.length : Int)) = true := decide_eq_true c15
                      clear c15
                      by_cases c16 : x7_1.length < 4398046511104
                      · rw [if_pos c16] at H
                        have LMc16 := Aside0.mk c16
                        clear c16
                        obtain ⟨y367, hy367⟩ : ∃ y_ : List (S35), y_ = (x7_1 ++ [(⟨(rd_T35 l0 x9_1).f0, (rd_T35 l0 x9_1).f1⟩ : S35)]) := ⟨_, rfl⟩
                        replace H : (missiveref09_Set.l0 kj6 l0 a1 a2 y367 x8_1 (wrap64 (x9_1 + 1))) = some r := by first | (rw [hy367]; with_reducible exact H) | (have H2_ := (Option.bind_some _ _).symm.trans H; rw [hy367]; with_reducible exact H2_) | (have H2_ := (Option.bind_some _ _).symm.trans H; with_reducible exact H2_) | with_reducible exact H | (rw [hy367]; exact H) | exact H
                        have Ny367 := Aside0.mk hy367
                        clear hy367
                        have H' := Aside0.mk H
                        clear H
                        have p366 : 0 ≤ (x9_1 : Int) := of_decide_eq_true (by first | (with_reducible assumption) | assumption)
                        have q366 : x9_1 < (l0.length : Int) := of_decide_eq_true (by first | (with_reducible assumption) | assumption)
                        obtain ⟨ad366, e366, hx366_0, hx366_1⟩ := at_T35 HR0.out x9_1 p366 q366
                        obtain rfl : ad361 = ad366 := (by injection e366)
                        replace hx366_0 := (HB.out.cell (World.block_lt_of_cell? w _ hx366_0)).trans hx366_0
                        replace hx366_1 := (HB.out.cell (World.block_lt_of_cell? w _ hx366_1)).trans hx366_1
                        replace p366 := eq_true p366
                        replace q366 := eq_true q366
                        go_wp2_with (first | ((with_reducible refine gate_builtin (b := .append) (xs := #[.tmp 37, .tmp 42]) rfl ?_); at_builtin; refine Kd.R_append k35 (w0 := w) w.heap.size rfl (.tmp 37) (.tmp 42) 33 35 (.agg #[(.string ⟨#[]⟩), (.string ⟨#[]⟩)]) 32 rfl Tryz.underlying33 info35 rfl (by decide) (by omega) u7 x7_1 (⟨(rd_T35 l0 x9_1).f0, (rd_T35 l0 x9_1).f1⟩ : S35) [.string ((rd_T35 l0 x9_1).f0), .string ((rd_T35 l0 x9_1).f1)] (fun _ => True) (fun _ => False) rfl rfl ?aP (fun _ hk => hk.elim) ?aF ?aO ?aB ?aS ?aL ?_; (case aP => exact k35_mkM _ _ _ (⟨(rd_T35 l0 x9_1).f0, (rd_T35 l0 x9_1).f1⟩ : S35)); (case aB => exact (by repeat (first | (with_reducible first | exact HB.out | apply below_alloc | apply pw_below_drewN | apply below_drew1) | exact HB.out))); (case aF => exact (fun _ _ => trivial)); (case aO => exact (by (with_reducible repeat (first | apply Kd.R_alloc | apply Kd.R_drewN | apply Kd.R_drew)); exact HO_7.out)); (case aS => exact (below_size (by repeat (first | (with_reducible first | exact HB.out | apply below_alloc | apply pw_below_drewN | apply below_drew1) | exact HB.out)))); (case aL => have := LMc16.out; omega); intro v368 w17 ho hb hg hat; rw [← Ny367.out] at ho; have n0_ := Aside0.mk (hb); have n1_ := Aside0.mk (ho); clear HB; clear HO_7; have HB := n0_; have HO369 := n1_; clear n0_ n1_; clear ho hb hg hat))
                        go_roundg kj6
                        case measure => have := HK1.out; have := HJ6.out; omega
                        case rel => exact ⟨(y367), (x8_1), (wrap64 (x9_1 + 1)), (by first | rfl | (simp; done) | (simp [*]; done)), (by first | rfl | (simp; done) | (simp [*]; done)), H', ⟨by have := HK1.out; have := HJ6.out; omega⟩, ⟨by (with_reducible repeat (first | apply Kd.R_alloc | apply Kd.R_drewN | apply Kd.R_drew)); exact HO369.out⟩, ⟨by repeat (first | (with_reducible first | exact HB.out | apply below_alloc | apply pw_below_drewN | apply below_drew1) | exact HB.out)⟩⟩
                      · rw [if_neg c16] at H
                        exact absurd H (by simp)
                    · rw [if_neg c15] at H
                      exact absurd H (by simp)
                  · rw [if_neg c14] at H
                    exact absurd H (by simp)
        · rw [if_neg c5] at H
          exact absurd H (by simp)
      · rw [if_neg c4] at H
        have c4b0 : decide (x9_1 < (l0.length : Int)) = false := decide_eq_false c4
        clear c4
        by_cases c18 : x8_1 = true
        · subst c18
          have H1 : (some x7_1) = some r := by rw [if_pos rfl] at H; exact H
          clear H
          have H := H1
          clear H1
          obtain rfl := Option.some.inj H
          go_wp2
          go_ret
          exact ⟨_, by first | rfl | (simp [errW_none, errW_some]; done) | (simp [errW_none, errW_some]; exact isEmpty_nbne _) | (simp [errW_none, errW_some]; exact isEmpty_bne _) | (simp [errW_none, errW_some] <;> rfl) | (simp [*, errW_none, errW_some] <;> rfl), by (with_reducible repeat (first | apply Kd.R_alloc | apply Kd.R_drewN | apply Kd.R_drew)); exact HO_7.out, by repeat (first | (with_reducible first | exact HB.out | apply below_alloc | apply pw_below_drewN | apply below_drew1) | exact HB.out)⟩
        · replace c18 := Bool.eq_false_iff.mpr c18
          subst c18
          have H1 : (if x7_1.length < 4398046511104 then (some (x7_1 ++ [(⟨a1, a2⟩ : S35)])) else (none)) = some r := by rw [if_neg (show ¬ (false = true) by decide)] at H; exact H
          clear H
          have H := H1
          clear H1
          by_cases c19 : x7_1.length < 4398046511104
          · rw [if_pos c19] at H
            have LMc19 := Aside0.mk c19
            clear c19
            obtain ⟨y358, hy358⟩ : ∃ y_ : List (S35), y_ = (x7_1 ++ [(⟨a1, a2⟩ : S35)]) := ⟨_, rfl⟩
            replace H : (some y358) = some r := by first | (rw [hy358]; with_reducible exact H) | (have H2_ := (Option.bind_some _ _).symm.trans H; rw [hy358]; with_reducible exact H2_) | (have H2_ := (Option.bind_some _ _).symm.trans H; with_reducible exact H2_) | with_reducible exact H | (rw [hy358]; exact H) | exact H
            have Ny358 := Aside0.mk hy358
            clear hy358
            obtain rfl := Option.some.inj H
            go_wp2_with (first | ((with_reducible refine gate_builtin (b := .append) (xs := #[.tmp 46, .tmp 50]) rfl ?_); at_builtin; refine Kd.R_append k35 (w0 := w) w.heap.size rfl (.tmp 46) (.tmp 50) 33 35 (.agg #[(.string ⟨#[]⟩), (.string ⟨#[]⟩)]) 32 rfl Tryz.underlying33 info35 rfl (by decide) (by omega) u7 x7_1 (⟨a1, a2⟩ : S35) [.string a1, .string a2] (fun _ => True) (fun _ => False) rfl rfl ?aP (fun _ hk => hk.elim) ?aF ?aO ?aB ?aS ?aL ?_; (case aP => exact k35_mkM _ _ _ (⟨a1, a2⟩ : S35)); (case aB => exact (by repeat (first | (with_reducible first | exact HB.out | apply below_alloc | apply pw_below_drewN | apply below_drew1) | exact HB.out))); (case aF => exact (fun _ _ => trivial)); (case aO => exact (by (with_reducible repeat (first | apply Kd.R_alloc | apply Kd.R_drewN | apply Kd.R_drew)); exact HO_7.out)); (case aS => exact (below_size (by repeat (first | (with_reducible first | exact HB.out | apply below_alloc | apply pw_below_drewN | apply below_drew1) | exact HB.out)))); (case aL => have := LMc19.out; omega); intro v359 w20 ho hb hg hat; rw [← Ny358.out] at ho; have n0_ := Aside0.mk (hb); have n1_ := Aside0.mk (ho); clear HB; clear HO_7; have HB := n0_; have HO360 := n1_; clear n0_ n1_; clear ho hb hg hat))
            go_ret
            exact ⟨_, by first | rfl | (simp [errW_none, errW_some]; done) | (simp [errW_none, errW_some]; exact isEmpty_nbne _) | (simp [errW_none, errW_some]; exact isEmpty_bne _) | (simp [errW_none, errW_some] <;> rfl) | (simp [*, errW_none, errW_some] <;> rfl), by (with_reducible repeat (first | apply Kd.R_alloc | apply Kd.R_drewN | apply Kd.R_drew)); exact HO360.out, by repeat (first | (with_reducible first | exact HB.out | apply below_alloc | apply pw_below_drewN | apply below_drew1) | exact HB.out)⟩
          · rw [if_neg c19] at H
            exact absurd H (by simp)
def missiveref09_Drop.l0 : Nat → List (S35) → ByteArray → List (S35) → Int → Option ((List (S35)))
  | 0, _, _, _, _ => none
  | k + 1, x0, x1, x5, x6 => if x6 < (x0.length : Int) then (if 0 ≤ x6 then ((missiveref01_Same.f ((rd_T35 x0 x6).f0) x1).bind fun t377 => (if t377 = true then (missiveref09_Drop.l0 k x0 x1 x5 (wrap64 (x6 + 1))) else (if x5.length < 4398046511104 then (missiveref09_Drop.l0 k x0 x1 (x5 ++ [(⟨(rd_T35 x0 x6).f0, (rd_T35 x0 x6).f1⟩ : S35)]) (wrap64 (x6 + 1))) else (none)))) else (none)) else (some x5)
def missiveref09_Drop.f (k : Nat) (l0 : List (S35)) (a1 : ByteArray) : Option ((List (S35))) := missiveref09_Drop.l0 k l0 a1 ([] : List (S35)) 0
theorem missiveref09_Drop.mono_l : ∀ k, (∀ y0 y1 y2 y3, LeO (missiveref09_Drop.l0 k y0 y1 y2 y3) (missiveref09_Drop.l0 (k + 1) y0 y1 y2 y3))
  | 0 => fun _ _ _ _ r h => by simp [missiveref09_Drop.l0] at h
  | k + 1 => by
    have ih0 := missiveref09_Drop.mono_l k
    · intro y0 y1 y2 y3
      unfold missiveref09_Drop.l0
      repeat' first
      | (with_reducible exact ih0 _ _ _ _)
      | (with_reducible exact LeO.refl _)
      | (with_reducible exact LeO.none _)
      | (with_reducible refine LeO.ite ?_ ?_)
      | (with_reducible refine LeO.bind ?_ (fun _ => ?_))
      | exact ih0 _ _ _ _
      | exact LeO.none _
      | refine LeO.ite ?_ ?_
      | refine LeO.bind ?_ (fun _ => ?_)
theorem missiveref09_Drop.mono : ∀ a0 a1 k, LeO (missiveref09_Drop.f k a0 a1) (missiveref09_Drop.f (k + 1) a0 a1) := by
  intro a0 a1 k
  have ih0 := missiveref09_Drop.mono_l k
  unfold missiveref09_Drop.f
  repeat' first
      | (with_reducible exact ih0 _ _ _ _)
      | (with_reducible exact LeO.refl _)
      | (with_reducible exact LeO.none _)
      | (with_reducible refine LeO.ite ?_ ?_)
      | (with_reducible refine LeO.bind ?_ (fun _ => ?_))
      | exact ih0 _ _ _ _
      | exact LeO.none _
      | refine LeO.ite ?_ ?_
      | refine LeO.bind ?_ (fun _ => ?_)
set_option maxHeartbeats 8000000 in
set_option maxRecDepth 100000 in
theorem missiveref09_Drop.calls (k : Nat) (A0 : Option Addr) (c0 : Nat) (l0 : List (S35)) (a1 : ByteArray) (r : List (S35)) (w : World) (hr0 : Kd.C k35 w A0 l0.length l0) (hc0 : l0.length ≤ c0) (h : missiveref09_Drop.f k l0 a1 = some r) :
    Calls Tryz.prog 38 #[.slice A0 l0.length c0, .string a1] w fun e w' => ∃ v0_ : Value, e = .returned (v0_) ∧ Kd.R k35 35 w' w.heap.size (fun _ => True) v0_ r ∧ Below w.heap.size w w' := by
  have hu35 := Tryz.underlying35
  have HR0 := Aside0.mk hr0
  have HC0 := Aside0.mk hc0
  clear hr0 hc0
  have HB := Aside0.mk (Below.refl w.heap.size w)
  have H : (missiveref09_Drop.l0 k l0 a1 ([] : List (S35)) 0) = some r := h
  clear h
  have H' := Aside0.mk H
  clear H
  go_enter Tryz.func38, Tryz.ntmps38
  go_wp2
  go_loopg [5, 6] k (fun kq v5 v6 w' => ∃ (x5_1 : List (S35)) (x6_1 : Int), v6 = .int .i64 x6_1 ∧ Aside0 (missiveref09_Drop.l0 kq l0 a1 x5_1 x6_1 = some r) ∧ Aside0 (kq ≤ k) ∧ Aside0 (Kd.R k35 35 w' w.heap.size (fun _ => True) v5 x5_1) ∧ Aside0 (Below w.heap.size w w'))
  case atStart => exact ⟨(([] : List (S35))), (0), (by first | rfl | (simp; done) | (simp [*]; done)), H', ⟨Nat.le_refl _⟩, ⟨by first | exact Kd.R_nil _ _ _ _ _ | exact Kd.N_nil _ _ _ _ _ | exact Kd.V_nil _ _ _ _ _ | exact Kd.Q_nil _ _ _ _ _ | exact Kd.S_nil _ _ _ _ _⟩, ⟨by repeat (first | (with_reducible first | exact HB.out | apply below_alloc | apply pw_below_drewN | apply below_drew1) | exact HB.out)⟩⟩
  case round =>
    clear H'
    try clear p2
    obtain ⟨x5_1, x6_1, rfl, HA, HK1, HO_5, HB⟩ := hrel
    cases gk with
    | zero => exact absurd HA.out (by simp [missiveref09_Drop.l0])
    | succ k1 =>
      have H := HA.out
      clear HA
      simp only [missiveref09_Drop.l0] at H
      by_cases c3 : x6_1 < (l0.length : Int)
      · rw [if_pos c3] at H
        have c3b0 : decide (x6_1 < (l0.length : Int)) = true := decide_eq_true c3
        clear c3
        by_cases c4 : 0 ≤ x6_1
        · rw [if_pos c4] at H
          have c4b0 : decide (0 ≤ x6_1) = true := decide_eq_true c4
          clear c4
          replace H := Option.bind_eq_some_iff.mp H
          obtain ⟨t377, A50, H⟩ := H
          replace H : (if t377 = true then (missiveref09_Drop.l0 k1 l0 a1 x5_1 (wrap64 (x6_1 + 1))) else (if x5_1.length < 4398046511104 then (missiveref09_Drop.l0 k1 l0 a1 (x5_1 ++ [(⟨(rd_T35 l0 x6_1).f0, (rd_T35 l0 x6_1).f1⟩ : S35)]) (wrap64 (x6_1 + 1))) else (none))) = some r := H
          have A5 := Aside0.mk A50
          clear A50
          by_cases c6 : t377 = true
          · subst c6
            have H1 : (missiveref09_Drop.l0 k1 l0 a1 x5_1 (wrap64 (x6_1 + 1))) = some r := by rw [if_pos rfl] at H; exact H
            clear H
            have H := H1
            clear H1
            have H' := Aside0.mk H
            clear H
            have p376 : 0 ≤ (x6_1 : Int) := of_decide_eq_true (by first | (with_reducible assumption) | assumption)
            have q376 : x6_1 < (l0.length : Int) := of_decide_eq_true (by first | (with_reducible assumption) | assumption)
            obtain ⟨ad376, e376, hx376_0, hx376_1⟩ := at_T35 HR0.out x6_1 p376 q376
            cases e376
            replace hx376_0 := (HB.out.cell (World.block_lt_of_cell? w _ hx376_0)).trans hx376_0
            replace hx376_1 := (HB.out.cell (World.block_lt_of_cell? w _ hx376_1)).trans hx376_1
            replace p376 := eq_true p376
            replace q376 := eq_true q376
            go_wp2_with (first | ((with_reducible refine gate_callee (f := 69) rfl ?_); refine goesL_ (some 19) rfl rfl Tryz.func69 (by kernel_rfl) rfl #[.string ((rd_T35 l0 x6_1).f0), .string a1] rfl (by (try simp only [List.map_toArray, List.map_cons, List.map_nil]); first | done | rfl | (simp only [List.length_drop, List.length_take]; rfl)) ?_; (with_reducible refine (missiveref01_Same.calls ((rd_T35 l0 x6_1).f0) a1 true _ A5.out).mono ?_); rintro e w7 ⟨rfl, hb⟩; refine ⟨_, rfl, ?_⟩; have n0_ := Aside0.mk (Kd.R_below (by (with_reducible repeat (first | apply Kd.R_alloc | apply Kd.R_drewN | apply Kd.R_drew)); exact HO_5.out) hb); have n1_ := Aside0.mk (below_step (by repeat (first | (with_reducible first | exact HB.out | apply below_alloc | apply pw_below_drewN | apply below_drew1) | exact HB.out)) hb); clear HO_5; clear HB; have HO_5 := n0_; have HB := n1_; clear n0_ n1_; (try clear hb); (try clear hb2); (try clear hk); (try clear hi)))
            go_roundg k1
            case measure => have := HK1.out; omega
            case rel => exact ⟨(x5_1), (wrap64 (x6_1 + 1)), (by first | rfl | (simp; done) | (simp [*]; done)), H', ⟨by have := HK1.out; omega⟩, ⟨by (with_reducible repeat (first | apply Kd.R_alloc | apply Kd.R_drewN | apply Kd.R_drew)); exact HO_5.out⟩, ⟨by repeat (first | (with_reducible first | exact HB.out | apply below_alloc | apply pw_below_drewN | apply below_drew1) | exact HB.out)⟩⟩
          · replace c6 := Bool.eq_false_iff.mpr c6
            subst c6
            have H1 : (if x5_1.length < 4398046511104 then (missiveref09_Drop.l0 k1 l0 a1 (x5_1 ++ [(⟨(rd_T35 l0 x6_1).f0, (rd_T35 l0 x6_1).f1⟩ : S35)]) (wrap64 (x6_1 + 1))) else (none)) = some r := by rw [if_neg (show ¬ (false = true) by decide)] at H; exact H
            clear H
            have H := H1
            clear H1
            by_cases c8 : x5_1.length < 4398046511104
            · rw [if_pos c8] at H
              have LMc8 := Aside0.mk c8
              clear c8
              obtain ⟨y379, hy379⟩ : ∃ y_ : List (S35), y_ = (x5_1 ++ [(⟨(rd_T35 l0 x6_1).f0, (rd_T35 l0 x6_1).f1⟩ : S35)]) := ⟨_, rfl⟩
              replace H : (missiveref09_Drop.l0 k1 l0 a1 y379 (wrap64 (x6_1 + 1))) = some r := by first | (rw [hy379]; with_reducible exact H) | (have H2_ := (Option.bind_some _ _).symm.trans H; rw [hy379]; with_reducible exact H2_) | (have H2_ := (Option.bind_some _ _).symm.trans H; with_reducible exact H2_) | with_reducible exact H | (rw [hy379]; exact H) | exact H
              have Ny379 := Aside0.mk hy379
              clear hy379
              have H' := Aside0.mk H
              clear H
              have p376 : 0 ≤ (x6_1 : Int) := of_decide_eq_true (by first | (with_reducible assumption) | assumption)
              have q376 : x6_1 < (l0.length : Int) := of_decide_eq_true (by first | (with_reducible assumption) | assumption)
              obtain ⟨ad376, e376, hx376_0, hx376_1⟩ := at_T35 HR0.out x6_1 p376 q376
              cases e376
              replace hx376_0 := (HB.out.cell (World.block_lt_of_cell? w _ hx376_0)).trans hx376_0
              replace hx376_1 := (HB.out.cell (World.block_lt_of_cell? w _ hx376_1)).trans hx376_1
              replace p376 := eq_true p376
              replace q376 := eq_true q376
              go_wp2_with (first | ((with_reducible refine gate_callee (f := 69) rfl ?_); refine goesL_ (some 19) rfl rfl Tryz.func69 (by kernel_rfl) rfl #[.string ((rd_T35 l0 x6_1).f0), .string a1] rfl (by (try simp only [List.map_toArray, List.map_cons, List.map_nil]); first | done | rfl | (simp only [List.length_drop, List.length_take]; rfl)) ?_; (with_reducible refine (missiveref01_Same.calls ((rd_T35 l0 x6_1).f0) a1 false _ A5.out).mono ?_); rintro e w9 ⟨rfl, hb⟩; refine ⟨_, rfl, ?_⟩; have n0_ := Aside0.mk (Kd.R_below (by (with_reducible repeat (first | apply Kd.R_alloc | apply Kd.R_drewN | apply Kd.R_drew)); exact HO_5.out) hb); have n1_ := Aside0.mk (below_step (by repeat (first | (with_reducible first | exact HB.out | apply below_alloc | apply pw_below_drewN | apply below_drew1) | exact HB.out)) hb); clear HO_5; clear HB; have HO_5 := n0_; have HB := n1_; clear n0_ n1_; (try clear hb); (try clear hb2); (try clear hk); (try clear hi); have p378 : 0 ≤ (x6_1 : Int) := of_decide_eq_true (by first | (with_reducible assumption) | assumption); have q378 : x6_1 < (l0.length : Int) := of_decide_eq_true (by first | (with_reducible assumption) | assumption); obtain ⟨ad378, e378, hx378_0, hx378_1⟩ := at_T35 HR0.out x6_1 p378 q378; obtain rfl : ad376 = ad378 := (by injection e378); replace hx378_0 := (HB.out.cell (World.block_lt_of_cell? w _ hx378_0)).trans hx378_0; replace hx378_1 := (HB.out.cell (World.block_lt_of_cell? w _ hx378_1)).trans hx378_1; replace p378 := eq_true p378; replace q378 := eq_true q378) | ((with_reducible refine gate_builtin (b := .append) (xs := #[.tmp 21, .tmp 26]) rfl ?_); at_builtin; refine Kd.R_append k35 (w0 := w) w.heap.size rfl (.tmp 21) (.tmp 26) 33 35 (.agg #[(.string ⟨#[]⟩), (.string ⟨#[]⟩)]) 32 rfl Tryz.underlying33 info35 rfl (by decide) (by omega) u5 x5_1 (⟨(rd_T35 l0 x6_1).f0, (rd_T35 l0 x6_1).f1⟩ : S35) [.string ((rd_T35 l0 x6_1).f0), .string ((rd_T35 l0 x6_1).f1)] (fun _ => True) (fun _ => False) rfl rfl ?aP (fun _ hk => hk.elim) ?aF ?aO ?aB ?aS ?aL ?_; (case aP => exact k35_mkM _ _ _ (⟨(rd_T35 l0 x6_1).f0, (rd_T35 l0 x6_1).f1⟩ : S35)); (case aB => exact (by repeat (first | (with_reducible first | exact HB.out | apply below_alloc | apply pw_below_drewN | apply below_drew1) | exact HB.out))); (case aF => exact (fun _ _ => trivial)); (case aO => exact (by (with_reducible repeat (first | apply Kd.R_alloc | apply Kd.R_drewN | apply Kd.R_drew)); exact HO_5.out)); (case aS => exact (below_size (by repeat (first | (with_reducible first | exact HB.out | apply below_alloc | apply pw_below_drewN | apply below_drew1) | exact HB.out)))); (case aL => have := LMc8.out; omega); intro v380 w10 ho hb hg hat; rw [← Ny379.out] at ho; have n0_ := Aside0.mk (hb); have n1_ := Aside0.mk (ho); clear HB; clear HO_5; have HB := n0_; have HO381 := n1_; clear n0_ n1_; clear ho hb hg hat))
              go_roundg k1
              case measure => have := HK1.out; omega
              case rel => exact ⟨(y379), (wrap64 (x6_1 + 1)), (by first | rfl | (simp; done) | (simp [*]; done)), H', ⟨by have := HK1.out; omega⟩, ⟨by (with_reducible repeat (first | apply Kd.R_alloc | apply Kd.R_drewN | apply Kd.R_drew)); exact HO381.out⟩, ⟨by repeat (first | (with_reducible first | exact HB.out | apply below_alloc | apply pw_below_drewN | apply below_drew1) | exact HB.out)⟩⟩
            · rw [if_neg c8] at H
              exact absurd H (by simp)
        · rw [if_neg c4] at H
          exact absurd H (by simp)
      · rw [if_neg c3] at H
        have c3b0 : decide (x6_1 < (l0.length : Int)) = false := decide_eq_false c3
        clear c3
        obtain rfl := Option.some.inj H
        go_wp2
        go_ret
        exact ⟨_, by first | rfl | (simp [errW_none, errW_some]; done) | (simp [errW_none, errW_some]; exact isEmpty_nbne _) | (simp [errW_none, errW_some]; exact isEmpty_bne _) | (simp [errW_none, errW_some] <;> rfl) | (simp [*, errW_none, errW_some] <;> rfl), by (with_reducible repeat (first | apply Kd.R_alloc | apply Kd.R_drewN | apply Kd.R_drew)); exact HO_5.out, by repeat (first | (with_reducible first | exact HB.out | apply below_alloc | apply pw_below_drewN | apply below_drew1) | exact HB.out)⟩
end Go.Proofs.YtieompfmhnpnaaaGreat.H
end
