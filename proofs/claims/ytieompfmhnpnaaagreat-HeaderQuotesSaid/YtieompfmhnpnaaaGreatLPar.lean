/- Plain laws: what Quote wrote comes back by Params. -/
import Derived.Test.YtieompfmhnpnaaaGreatLPiece
import Derived.Test.YtieompfmhnpnaaaGreatXParams
import Derived.Test.YtieompfmhnpnaaaGreatLWrite
namespace Go.Proofs.YtieompfmhnpnaaaGreat.H
open Go.RowKit Go.Proofs.YtieompfmhnpnaaaGreatW.PrintWords Go.Proofs.YtieompfmhnpnaaaGreatW.PrintLast Go.Proofs.YtieompfmhnpnaaaGreatW.PrintMore
set_option linter.unusedVariables false
set_option linter.unusedSimpArgs false

theorem AtL.left {s : ByteArray} {i : Nat} {t u : List UInt8} (h : AtL s i (t ++ u)) : AtL s i t := fun j hj => by
  have := h j (by rw [List.length_append]; omega)
  rw [List.getElem_append_left hj] at this
  exact this
theorem AtL.right {s : ByteArray} {i : Nat} {t u : List UInt8} (h : AtL s i (t ++ u)) : AtL s (i + t.length) u := fun j hj => by
  have := h (t.length + j) (by rw [List.length_append]; omega)
  rw [List.getElem_append_right (by omega)] at this
  simpa [Nat.add_assoc] using this
theorem AtL.of_split {s : ByteArray} {a b : List UInt8} (h : bl s = a ++ b) : AtL s a.length b := fun j hj => by
  have hl := bl_length s
  rw [h, List.length_append] at hl
  refine ⟨by omega, ?_⟩
  unfold byteAt
  show (bl s).getD _ 0 = _
  rw [h]
  simp [List.getD, hj]
theorem AtL.extract {s : ByteArray} {i : Nat} {t : List UInt8} (h : AtL s i t) : s.extract i (i + t.length) = mkB t := by
  apply bl_inj
  rw [bl_extract, bl_mkB]
  apply List.ext_getElem?
  intro j
  by_cases hj : j < t.length
  · have h1 := h j hj
    rw [List.getElem?_drop, List.getElem?_take, if_pos (by omega), byteAt_list s _ h1.1, h1.2, List.getElem?_eq_getElem hj]
  · rw [List.getElem?_eq_none (by rw [List.length_drop, List.length_take]; omega), List.getElem?_eq_none (by rw [bl_mkB]; omega)]
theorem scan_plain' (s : ByteArray) (fr i k : Nat) (t : List UInt8) (h : AtL s i t) (ht : ∀ c ∈ t, c ≠ 34 ∧ c ≠ 59) (hi : i + t.length ≤ s.size) (hk : s.size ≤ i + k) :
    piecesAt s k fr false i = piecesAt s k fr false (i + t.length) := by
  rw [pieces_fuel s k (k + t.length) fr i false hk (by omega), scan_plain s fr t.length k i hi (fun j h1 h2 => ?_)]
  have := h (j - i) (by omega)
  rw [show i + (j - i) = j by omega] at this
  rw [this.2]
  exact ht _ (List.getElem_mem _)
theorem tok_plain {v : ByteArray} (h : isTokenB v = true) : ∀ c ∈ bl v, visB c = true ∧ c ≠ 34 ∧ c ≠ 59 ∧ c ≠ 61 ∧ c ≠ 92 := by
  unfold isTokenB at h
  simp only [Bool.and_eq_true, List.all_eq_true, Bool.not_eq_true'] at h
  intro c hc
  have := h.1 c hc
  unfold tokB at this
  simp only [Bool.and_eq_true, Bool.not_eq_true'] at this
  refine ⟨this.1, ?_, ?_, ?_, ?_⟩ <;> (rintro rfl; exact absurd this.2 (by decide))
theorem scan_val (s : ByteArray) (fr i k : Nat) (v : ByteArray) (h : AtL s i (valL v)) (hi : i + (valL v).length ≤ s.size) (hk : s.size ≤ i + k) :
    piecesAt s k fr false i = piecesAt s k fr false (i + (valL v).length) := by
  by_cases ht : isTokenB v = true
  · have e : valL v = bl v := by unfold valL; rw [if_pos ht]
    rw [e] at h hi ⊢
    exact scan_plain' s fr i k _ h (fun c hc => ⟨(tok_plain ht c hc).2.1, (tok_plain ht c hc).2.2.1⟩) hi hk
  · have e : valL v = [34] ++ ((bl v).flatMap escL ++ [34]) := by unfold valL escS; rw [if_neg ht, bl_mkB, List.append_assoc]
    rw [e] at h hi ⊢
    simp only [List.length_append, List.length_cons, List.length_nil] at hi ⊢
    have h1 := h.right
    have h2 := h1.left
    have h3 := h1.right
    simp only [List.length_append, List.length_cons, List.length_nil, Nat.zero_add] at h1 h2 h3
    have c0 := (h 0 (by simp)).2
    have c1 := (h3 0 (by simp)).2
    simp only [Nat.add_zero] at c0 c1
    have c0' : byteAt s i = 34 := by simpa using c0
    have c1' : byteAt s (i + 1 + ((bl v).flatMap escL).length) = 34 := by simpa using c1
    obtain ⟨k, rfl⟩ : ∃ m, k = m + 1 := ⟨k - 1, by omega⟩
    rw [piecesAt, if_pos (by omega), if_neg (fun e => by cases e.2), if_pos c0', Bool.not_false, scan_quote s fr (bl v) (i + 1) k h2 (by omega)]
    clear h h1 h2 h3 c0 c1 e
    generalize hL : ((bl v).flatMap escL).length = L at *
    have hk2 : s.size ≤ i + 1 + L + k := by omega
    obtain ⟨k, rfl⟩ : ∃ m, k = m + 1 := ⟨k - 1, by omega⟩
    rw [piecesAt, if_pos (by omega), c1', if_neg (fun e => absurd e.1 (by decide)), if_pos rfl, Bool.not_true, show i + (0 + 1 + (L + (0 + 1))) = i + 1 + L + 1 by omega]
    exact pieces_fuel s _ _ _ _ _ (by omega) (by omega)
theorem paramL_tok {p : S25} (h : isTokenB p.f0 = true) : paramL p = 59 :: (32 :: bl p.f0 ++ 61 :: valL p.f1) := by
  unfold paramL
  rw [if_pos h]
  simp
theorem pieces_params (s : ByteArray) : ∀ (l : List S25) (fr i k : Nat), (∀ p ∈ l, isTokenB p.f0 = true) → AtL s i (l.flatMap paramL) → i + (l.flatMap paramL).length = s.size → s.size ≤ i + k →
    piecesAt s k fr false i = s.extract fr i :: l.map fun p => mkB (paramL p).tail
  | [], fr, i, k, _, _, hi, hk => by
    obtain rfl : i = s.size := by simpa using hi
    rw [piecesAt_end s k fr _ _ (Nat.le_refl _)]
    rfl
  | p :: l, fr, i, k, hp, h, hi, hk => by
    have ht := hp p (by simp)
    rw [List.flatMap_cons] at h hi
    have e := paramL_tok ht
    have hA := h.left
    have hB := h.right
    rw [List.length_append] at hi
    have e2 : paramL p = [59] ++ ((32 :: bl p.f0 ++ [61]) ++ valL p.f1) := by rw [e]; simp
    have hA1 : AtL s (i + 1) ((32 :: bl p.f0 ++ [61]) ++ valL p.f1) := by rw [e2] at hA; exact hA.right
    have c0 : byteAt s i = 59 := by
      have := (hA 0 (by rw [e]; simp)).2
      simpa [e] using this
    have hlen : (paramL p).length = 1 + ((32 :: bl p.f0 ++ [61]).length + (valL p.f1).length) := by rw [e2]; simp only [List.length_append, List.length_cons, List.length_nil]
    have hX : AtL s (i + 1) (paramL p).tail := by rw [e2]; exact hA1
    have hxl : (paramL p).tail.length + 1 = (paramL p).length := by rw [e]; simp
    obtain ⟨k, rfl⟩ : ∃ m, k = m + 1 := ⟨k - 1, by omega⟩
    rw [piecesAt, if_pos (by omega), c0, if_neg (fun e => by cases e.2), if_neg (by decide), if_pos ⟨rfl, rfl⟩,
      scan_plain' s (i + 1) (i + 1) k (32 :: bl p.f0 ++ [61]) hA1.left ?_ (by omega) (by omega),
      scan_val s (i + 1) _ k p.f1 hA1.right (by omega) (by omega)]
    · have ih := pieces_params s l (i + 1) (i + (paramL p).length) k (fun q hq => hp q (by simp [hq])) hB (by omega) (by omega)
      have e5 : i + 1 + ((32 : UInt8) :: bl p.f0 ++ [61]).length + (valL p.f1).length = i + (paramL p).length := by omega
      rw [e5, ih, List.map_cons]
      rw [show i + (paramL p).length = i + 1 + (paramL p).tail.length by omega, hX.extract]
    · intro c hc
      simp only [List.cons_append, List.mem_cons, List.mem_append, List.not_mem_nil, or_false] at hc
      rcases hc with rfl | hc | rfl
      · decide
      · exact ⟨(tok_plain ht c hc).2.1, (tok_plain ht c hc).2.2.1⟩
      · decide
theorem pieces_quote (m : ByteArray) (l : List S25) (hm : ∀ c ∈ bl m, c ≠ 34 ∧ c ≠ 59) (hl : ∀ p ∈ l, isTokenB p.f0 = true) :
    piecesOf (mkB (quoteL m l)) = m :: l.map fun p => mkB (paramL p).tail := by
  have hs : bl (mkB (quoteL m l)) = bl m ++ l.flatMap paramL := rfl
  have hsz : (mkB (quoteL m l)).size = m.size + (l.flatMap paramL).length := by rw [mkB_size]; unfold quoteL; rw [List.length_append, bl_length]
  generalize mkB (quoteL m l) = s at *
  have h0 : AtL s 0 (bl m) := AtL.of_split (a := []) (b := bl m ++ l.flatMap paramL) hs |>.left
  have h1 : AtL s (bl m).length (l.flatMap paramL) := AtL.of_split hs
  rw [bl_length] at h1
  unfold piecesOf
  rw [scan_plain' s 0 0 (s.size + 1) (bl m) h0 hm (by rw [bl_length]; omega) (by omega), bl_length, Nat.zero_add,
    pieces_params s l 0 m.size (s.size + 1) hl h1 (by omega) (by omega)]
  have := h0.extract
  rw [Nat.zero_add, bl_length] at this
  rw [this, mkB_bl]
theorem ws_vis {c : UInt8} (h : visB c = true) : wsB c = false := by
  apply Bool.eq_false_iff.2
  intro h2
  unfold wsB at h2
  simp only [Bool.or_eq_true, beq_iff_eq] at h2
  rcases h2 with ((rfl | rfl) | rfl) | rfl <;> exact absurd h (by decide)
theorem trim_vis (y : UInt8) (r : List UInt8) (hy : wsB y = false) (x : UInt8) (l' : List UInt8) (h : y :: r = l' ++ [x]) (hx : wsB x = false) : trimL (y :: r) = y :: r := by
  unfold trimL
  rw [List.dropWhile_cons, if_neg (by rw [hy]; decide), h, rtrim_snoc, if_neg (by rw [hx]; decide)]
theorem trim_vis_all (l : List UInt8) (h : ∀ c ∈ l, visB c = true) : trimL l = l := by
  rcases List.eq_nil_or_concat l with rfl | ⟨l', x, e⟩
  · rfl
  · rw [List.concat_eq_append] at e
    cases l with
    | nil => rfl
    | cons y r => exact trim_vis y r (ws_vis (h y (by simp))) x l' e (ws_vis (h x (by rw [e]; simp)))
theorem trim_32 (t : List UInt8) : trimL (32 :: t) = trimL t := by
  unfold trimL
  rw [List.dropWhile_cons, if_pos (by decide)]
theorem trim_val (v : ByteArray) : trimS (mkB (valL v)) = mkB (valL v) := by
  unfold trimS
  rw [bl_mkB]
  by_cases ht : isTokenB v = true
  · have e : valL v = bl v := by unfold valL; rw [if_pos ht]
    rw [e, trim_vis_all _ (fun c hc => (tok_plain ht c hc).1)]
  · have e : valL v = 34 :: (bl (escS v) ++ [34]) := by unfold valL; rw [if_neg ht]; rfl
    rw [e, trim_vis 34 _ (by decide) 34 (34 :: bl (escS v)) (by simp) (by decide)]
theorem step_param (st : QP) (p : S25) (hf : st.first = false) (ht : isTokenB p.f0 = true) (hlow : lowS p.f0 = p.f0) (hn : inB p.f0 (namesOf st.ps) = false) :
    stepQ st (mkB (paramL p).tail) = ⟨st.main, st.first, st.ps ++ [p]⟩ := by
  have e : bl (mkB (paramL p).tail) = (32 :: bl p.f0) ++ 61 :: valL p.f1 := by rw [paramL_tok ht]; rfl
  have hc := cutAt_cut e (c := 61) (by
    intro h
    rw [List.mem_cons] at h
    rcases h with h | h
    · exact absurd h (by decide)
    · exact (tok_plain ht _ h).2.2.2.1 rfl)
  have hnm : pnameS (mkB (paramL p).tail) = p.f0 := by
    unfold pnameS
    rw [hc]
    have : trimS (mkB (32 :: bl p.f0)) = p.f0 := by
      unfold trimS
      rw [bl_mkB, trim_32, trim_vis_all _ (fun c hc => (tok_plain ht c hc).1), mkB_bl]
    rw [this, hlow]
  unfold stepQ
  rw [if_neg (by rw [hf]; decide), hnm, hc, if_neg (by rintro (h | h | h); cases h; exact absurd (ht.symm.trans h) (by decide); exact absurd (hn.symm.trans h) (by decide))]
  dsimp only
  rw [trim_val, value_back, if_pos rfl]
theorem fold_params : ∀ (l : List S25) (st : QP), st.first = false → (∀ p ∈ l, isTokenB p.f0 = true ∧ lowS p.f0 = p.f0) → ((st.ps ++ l).map (·.f0)).Nodup →
    foldQ st (l.map fun p => mkB (paramL p).tail) = ⟨st.main, false, st.ps ++ l⟩
  | [], st, hf, _, _ => by cases st; simp at hf; subst hf; simp [foldQ]
  | p :: l, st, hf, hp, hd => by
    have h1 := hp p (by simp)
    have hn : inB p.f0 (namesOf st.ps) = false := by
      unfold inB
      rw [List.any_eq_false]
      intro y hy
      rw [beq_iff_eq]
      intro e
      have e2 := bl_inj e
      subst e2
      rw [List.map_append, List.nodup_append] at hd
      exact hd.2.2 _ hy _ (by simp) rfl
    rw [List.map_cons]
    show foldQ (stepQ st _) _ = _
    rw [step_param st p hf h1.1 h1.2 hn, fold_params l _ (by exact hf) (fun q hq => hp q (by simp [hq])) (by simpa using hd)]
    simp
theorem params_quote (m : ByteArray) (l : List S25) (hm : ∀ c ∈ bl m, c ≠ 34 ∧ c ≠ 59) (htm : trimS m = m) (hl : ∀ p ∈ l, isTokenB p.f0 = true ∧ lowS p.f0 = p.f0) (hd : (l.map (·.f0)).Nodup) :
    paramsS (mkB (quoteL m l)) = (m, l) := by
  unfold paramsS
  rw [pieces_quote m l hm (fun p hp => (hl p hp).1)]
  have e : foldQ ⟨⟨#[]⟩, true, []⟩ (m :: l.map fun p => mkB (paramL p).tail) = foldQ ⟨trimS m, false, []⟩ (l.map fun p => mkB (paramL p).tail) := by
    show foldQ (stepQ _ _) _ = _
    unfold stepQ
    rw [if_pos rfl]
  rw [e, fold_params l _ rfl hl (by simpa using hd), htm]
  rfl
end Go.Proofs.YtieompfmhnpnaaaGreat.H
