/- Plain laws. -/
import Derived.Test.YtieompfmhnpnaaaGreatB12
import Derived.Test.YtieompfmhnpnaaaGreatLWrite
import Derived.Test.YtieompfmhnpnaaaGreatLNamed
import Derived.Test.YtieompfmhnpnaaaGreatB28
import Derived.Test.YtieompfmhnpnaaaGreatLSame
/-! Plain laws: what the law's plain computes. -/
namespace Go.Proofs.YtieompfmhnpnaaaGreat.H
open Go.RowKit Go.Proofs.YtieompfmhnpnaaaGreatW.PrintWords Go.Proofs.YtieompfmhnpnaaaGreatW.PrintLast Go.Proofs.YtieompfmhnpnaaaGreatW.PrintMore
set_option linter.unusedVariables false
set_option linter.unusedSimpArgs false

/-- Is there a fold inside the text at a place? -/
def foldB (s : ByteArray) (i : Nat) : Bool := decide (1 ≤ i) && decide (i + 1 < s.size) && isFoldB s i
theorem rwhite_at (c : UInt8) : missiveref09_white.f (c.toNat : Int) = some (blankB c) := blank_at c
theorem fold_eq (s : ByteArray) (i : Nat) (hs : s.size ≤ 1099511627776) (hi : i < s.size) : missiveref09_Fold.f s (i : Int) = some (foldB s i) := by
  unfold missiveref09_Fold.f
  by_cases h1 : 1 ≤ i
  · rw [if_pos (show (i : Int) ≥ 1 by omega), wrap_up i (by omega), wrap_down i (by omega) (by omega)]
    by_cases h2 : i + 1 < s.size
    · rw [if_pos (by omega), if_pos (by omega), if_pos (by omega), bt_byteAt s i hi, bt_byteAt s (i - 1) (by omega), bt_byteAt s (i + 1) (by omega), rwhite_at, rwhite_at]
      have e : foldB s i = isFoldB s i := by simp [foldB, h1, h2]
      rw [e]
      unfold isFoldB
      by_cases h3 : byteAt s i = 32
      · rw [if_pos (by rw [h3]; rfl), if_pos (by omega), if_pos (by omega), h3]
        simp only [Option.bind_some]
        by_cases h4 : blankB (byteAt s (i - 1)) = true
        · simp [h4]
        · have h4 : blankB (byteAt s (i - 1)) = false := by simpa using h4
          rw [h4, if_neg (by decide), if_pos (by omega)]
          simp
      · have h3' : ¬ ((byteAt s i).toNat : Int) = 32 := fun h => h3 (by
          have : (byteAt s i).toNat = 32 := by omega
          exact UInt8.toNat_inj.1 (by simpa using this))
        rw [if_neg h3']
        simp [h3]
    · rw [if_neg (by omega)]
      simp [foldB, h2]
  · rw [if_neg (show ¬ (i : Int) ≥ 1 by omega)]
    simp [foldB, h1]

/-- No 700 bytes follow each other without a fold. -/
def GapsFrom (s : ByteArray) (i : Nat) : Prop := ∀ a, i ≤ a → a + 700 ≤ s.size → ∃ g, a < g ∧ g < a + 700 ∧ foldB s g = true
theorem wrap_sub (i j : Nat) (h : j ≤ i) (hi : i < 4611686018427387904) : wrap64 ((i : Int) - (j : Int)) = ((i - j : Nat) : Int) := by
  unfold wrap64
  omega
theorem plain_l0 (s : ByteArray) (hs : s.size ≤ 1099511627776) : ∀ (n i last : Nat), i + n = s.size → last ≤ i →
    ∃ b, Ev (fun k => missivelaw09_plain.l0 k s (last : Int) (i : Int)) b ∧ (b = true → (∀ j, i ≤ j → j < s.size → byteAt s j ≠ 13 ∧ byteAt s j ≠ 10) ∧ GapsFrom s last)
  | 0, i, last, hi, hl => by
    refine ⟨decide ((s.size - last : Nat) < 700), ?_, ?_⟩
    · refine Ev.step (fun k => by simp only [missivelaw09_plain.l0]; rfl) ?_
      refine ev_no (by omega) ?_
      refine ev_done ?_
      rw [wrap_sub _ _ (by omega) (by omega)]
      apply decide_eq_decide.2
      omega
    · intro h
      have h := of_decide_eq_true h
      exact ⟨fun j h1 h2 => by omega, fun a h1 h2 => by omega⟩
  | n + 1, i, last, hi, hl => by
    have hb := bt_byteAt s i (by omega)
    have hno : ∀ {x : UInt8} {m : Nat}, x.toNat = m → byteAt s i ≠ x → ¬ ((byteAt s i).toNat : Int) = m := fun hx hne h => hne (UInt8.toNat_inj.1 (by omega))
    by_cases c13 : byteAt s i = 13
    · refine ⟨false, ?_, fun h => by cases h⟩
      refine Ev.step (fun k => by simp only [missivelaw09_plain.l0]; rfl) ?_
      refine ev_yes (by omega) (ev_yes (by omega) (ev_yes (by rw [hb, c13]; rfl) ?_))
      refine Ev.step (fun k => by simp only [missivelaw09_plain.j1]; rfl) ?_
      exact ev_yes (by trivial) (Ev.now _)
    by_cases c10 : byteAt s i = 10
    · refine ⟨false, ?_, fun h => by cases h⟩
      refine Ev.step (fun k => by simp only [missivelaw09_plain.l0]; rfl) ?_
      refine ev_yes (by omega) (ev_yes (by omega) (ev_no (by rw [hb]; exact hno rfl c13) (ev_yes (by rw [hb, c10]; rfl) ?_)))
      refine Ev.step (fun k => by simp only [missivelaw09_plain.j1]; rfl) ?_
      exact ev_yes (by trivial) (Ev.now _)
    by_cases hg : i - last ≥ 700
    · refine ⟨false, ?_, fun h => by cases h⟩
      refine Ev.step (fun k => by simp only [missivelaw09_plain.l0]; rfl) ?_
      refine ev_yes (by omega) (ev_yes (by omega) (ev_no (by rw [hb]; exact hno rfl c13) (ev_no (by rw [hb]; exact hno rfl c10) ?_)))
      refine Ev.step (fun k => by simp only [missivelaw09_plain.j1]; rfl) ?_
      exact ev_yes (by rw [wrap_sub _ _ hl (by omega)]; simp; omega) (Ev.now _)
    have hfold := fold_eq s i hs (by omega)
    have go : ∀ (last' : Nat) (b : Bool), (if foldB s i = true then i else last) = last' → Ev (fun k => missivelaw09_plain.l0 k s (last' : Int) ((i + 1 : Nat) : Int)) b → Ev (fun k => missivelaw09_plain.l0 k s (last : Int) (i : Int)) b := by
      intro last' b hl' hev
      refine Ev.step (fun k => by simp only [missivelaw09_plain.l0]; rfl) ?_
      refine ev_yes (by omega) (ev_yes (by omega) (ev_no (by rw [hb]; exact hno rfl c13) (ev_no (by rw [hb]; exact hno rfl c10) ?_)))
      refine Ev.step (fun k => by simp only [missivelaw09_plain.j1]; rfl) ?_
      refine ev_no (by rw [wrap_sub _ _ hl (by omega)]; simp; omega) ?_
      simp only [hfold, Option.bind_some]
      rw [wrap_up i (by omega)]
      by_cases hf : foldB s i = true
      · rw [if_pos hf] at hl'
        subst hl'
        exact ev_yes hf hev
      · rw [if_neg hf] at hl'
        subst hl'
        exact ev_no hf hev
    by_cases hf : foldB s i = true
    · obtain ⟨b, hev, hb2⟩ := plain_l0 s hs n (i + 1) i (by omega) (by omega)
      refine ⟨b, go i b (if_pos hf) hev, fun h => ?_⟩
      obtain ⟨h1, h2⟩ := hb2 h
      refine ⟨fun j hj1 hj2 => ?_, fun a ha1 ha2 => ?_⟩
      · by_cases e : j = i
        · subst e
          exact ⟨c13, c10⟩
        · exact h1 j (by omega) hj2
      · by_cases e : a < i
        · exact ⟨i, e, by omega, hf⟩
        · exact h2 a (by omega) ha2
    · obtain ⟨b, hev, hb2⟩ := plain_l0 s hs n (i + 1) last (by omega) (by omega)
      refine ⟨b, go last b (if_neg hf) hev, fun h => ?_⟩
      obtain ⟨h1, h2⟩ := hb2 h
      refine ⟨fun j hj1 hj2 => ?_, h2⟩
      by_cases e : j = i
      · subst e
        exact ⟨c13, c10⟩
      · exact h1 j (by omega) hj2

/-- A value that Write and Parse give back. -/
structure PlainV (s : ByteArray) : Prop where
  trim : trimS s = s
  no : ∀ x ∈ bl s, x ≠ 13 ∧ x ≠ 10
  gaps : GapsFrom s 0
theorem plain_ev (s : ByteArray) (hs : s.size ≤ 1099511627776) : ∃ b, Ev (fun k => missivelaw09_plain.f k s) b ∧ (b = true → PlainV s) := by
  unfold missivelaw09_plain.f
  by_cases ht : trimS s = s
  · obtain ⟨b, hev, hb⟩ := plain_l0 s hs s.size 0 0 (by omega) (by omega)
    refine ⟨b, Ev.bind (trim_ev s hs) (ev_yes (by rw [ht]) hev), fun h => ⟨ht, fun x hx => ?_, (hb h).2⟩⟩
    obtain ⟨j, hj, rfl⟩ := List.mem_iff_getElem.1 hx
    have := (hb h).1 j (by omega) (by rw [bl_length] at hj; exact hj)
    unfold byteAt at this
    rw [List.getD_eq_getElem?_getD, List.getElem?_eq_getElem (by rw [bl_length] at hj; simpa using hj)] at this
    exact this
  · refine ⟨false, Ev.bind (trim_ev s hs) (ev_no (fun h => ht (bl_inj ?_)) (Ev.now _)), fun h => by cases h⟩
    rw [toList_bl, toList_bl] at h
    exact h
end Go.Proofs.YtieompfmhnpnaaaGreat.H

/-! Plain laws: a text with folds enough is folded at spaces alone. -/
namespace Go.Proofs.YtieompfmhnpnaaaGreat.H
open Go.RowKit Go.Proofs.YtieompfmhnpnaaaGreatW.PrintWords Go.Proofs.YtieompfmhnpnaaaGreatW.PrintLast Go.Proofs.YtieompfmhnpnaaaGreatW.PrintMore
set_option linter.unusedVariables false
set_option linter.unusedSimpArgs false

theorem downTo_none (p : Nat → Bool) (lo : Nat) : ∀ n, downTo p lo n = 0 → ∀ i, lo < i → i ≤ n → p i = false
  | 0, h, i, h1, h2 => by omega
  | n + 1, h, i, h1, h2 => by
    unfold downTo at h
    rw [if_neg (by omega)] at h
    by_cases hp : p (n + 1) = true
    · rw [if_pos hp] at h
      omega
    · rw [if_neg hp] at h
      by_cases e : i = n + 1
      · subst e
        simpa using hp
      · exact downTo_none p lo n h i h1 (by omega)
theorem upTo_none (p : Nat → Bool) : ∀ f i, 0 < i → upTo p i f = 0 → ∀ j, i ≤ j → j < i + f → p j = false
  | 0, i, h0, h, j, h1, h2 => by omega
  | f + 1, i, h0, h, j, h1, h2 => by
    unfold upTo at h
    by_cases hp : p i = true
    · rw [if_pos hp] at h
      omega
    · rw [if_neg hp] at h
      by_cases e : j = i
      · subst e
        simpa using hp
      · exact upTo_none p f (i + 1) (by omega) h j (by omega) (by omega)
theorem foldAt_some (s : ByteArray) (b g : Nat) (h1 : b < g) (h2 : g ≤ 998) (h3 : g + 2 ≤ s.size) (h4 : isFoldB s g = true) : 0 < foldAtS s b := by
  apply Nat.pos_of_ne_zero
  intro h
  unfold foldAtS at h
  simp only at h
  by_cases hd : downTo (isFoldB s) b (min 78 (min 998 (s.size - 2))) = 0
  · rw [if_pos hd] at h
    have e1 := downTo_none _ _ _ hd g h1
    have e2 := upTo_none _ _ _ (by omega) h g
    by_cases hg : g ≤ 78
    · rw [e1 (by omega)] at h4
      cases h4
    · rw [e2 (by omega) (by omega)] at h4
      cases h4
  · rw [if_neg hd] at h
    exact hd h

/-- There are folds enough after a place. -/
def Soft (s : ByteArray) (b : Nat) : Prop := ∀ a, b ≤ a → a + 702 ≤ s.size → ∃ g, a < g ∧ g < a + 702 ∧ g + 1 < s.size ∧ isFoldB s g = true
/-- Parts that are cut at single spaces. -/
def Cuts : List UInt8 → List (List UInt8) → Prop
  | _, [] => True
  | l, c :: cs => (∃ l' x, l = l' ++ [x] ∧ blankB x = false) ∧ (∃ y r, c = 32 :: y :: r ∧ blankB y = false) ∧ Cuts c cs
theorem byteAt_ext (s : ByteArray) (p i : Nat) (h : p + i < s.size) : byteAt (s.extract p s.size) i = byteAt s (p + i) := by
  have h1 := byteAt_list (s.extract p s.size) i (by simp; omega)
  have h2 := byteAt_list s (p + i) h
  rw [bl_extract, List.take_of_length_le (by rw [bl_length]; exact Nat.le_refl _), List.getElem?_drop, h2] at h1
  exact (Option.some.inj h1).symm
theorem isFold_ext (s : ByteArray) (p i : Nat) (h0 : 1 ≤ i) (h : p + i + 1 < s.size) : isFoldB (s.extract p s.size) i = isFoldB s (p + i) := by
  unfold isFoldB
  rw [byteAt_ext s p i (by omega), byteAt_ext s p (i - 1) (by omega), byteAt_ext s p (i + 1) (by omega)]
  have e1 : p + (i - 1) = p + i - 1 := by omega
  rw [e1, Nat.add_assoc]
theorem soft_ext (s : ByteArray) (b p : Nat) (h : Soft s b) (hb : b ≤ p) (hp : p ≤ s.size) : Soft (s.extract p s.size) 0 := by
  intro a _ ha
  have hsz : (s.extract p s.size).size = s.size - p := by simp
  rw [hsz] at ha ⊢
  obtain ⟨g, h1, h2, h3, h4⟩ := h (a + p) (by omega) (by omega)
  refine ⟨g - p, by omega, by omega, by omega, ?_⟩
  rw [isFold_ext s p (g - p) (by omega) (by omega)]
  have e : p + (g - p) = g := by omega
  rw [e]
  exact h4
theorem foldLs_soft : ∀ (f : Nat) (s : ByteArray) (b : Nat), b ≤ 201 → Soft s b →
    ∃ j conts, foldLs f s b = (bl s).take j :: conts ∧ (bl s).take j ++ conts.flatten = bl s ∧ Cuts ((bl s).take j) conts ∧ (b < j ∨ s.size ≤ j)
  | 0, s, b, hb, hs => ⟨s.size, [], by rw [← bl_length, List.take_length]; rfl, by rw [← bl_length, List.take_length]; simp, trivial, .inr (Nat.le_refl _)⟩
  | f + 1, s, b, hb, hs => by
    have whole : ∃ j conts, [bl s] = (bl s).take j :: conts ∧ (bl s).take j ++ conts.flatten = bl s ∧ Cuts ((bl s).take j) conts ∧ (b < j ∨ s.size ≤ j) :=
      ⟨s.size, [], by rw [← bl_length, List.take_length], by rw [← bl_length, List.take_length]; simp, trivial, .inr (Nat.le_refl _)⟩
    unfold foldLs
    split
    · exact whole
    · split
      · rename_i hf
        obtain ⟨h1, h2, h3, h4⟩ := foldAt_spec s b hf
        generalize foldAtS s b = p at *
        obtain ⟨j, conts, e1, e2, e3, e4⟩ := foldLs_soft f (s.extract p s.size) 0 (by omega) (soft_ext s b p hs (by omega) (by omega))
        have hbl : bl (s.extract p s.size) = (bl s).drop p := by
          rw [bl_extract, List.take_of_length_le (by rw [bl_length]; exact Nat.le_refl _)]
        have h4' := h4
        unfold isFoldB at h4
        simp only [Bool.and_eq_true, beq_iff_eq, Bool.not_eq_true'] at h4
        obtain ⟨⟨g1, g2⟩, g3⟩ := h4
        refine ⟨p, foldLs f (s.extract p s.size) 0, by rw [bl_extract]; simp, ?_, ?_, .inl h1⟩
        · rw [e1, List.flatten_cons, e2, hbl, List.take_append_drop]
        · rw [e1]
          refine ⟨⟨(bl s).take (p - 1), byteAt s (p - 1), ?_, g2⟩, ?_, e3⟩
          · rw [← take_byteAt s (p - 1) (by omega)]
            have : p - 1 + 1 = p := by omega
            rw [this]
          · rw [hbl, drop_byteAt s p (by omega), drop_byteAt s (p + 1) (by omega), g1]
            have hsz : (s.extract p s.size).size = s.size - p := by simp
            by_cases hj : 2 ≤ j
            · obtain ⟨j', rfl⟩ : ∃ j', j = j' + 2 := ⟨j - 2, by omega⟩
              exact ⟨byteAt s (p + 1), _, by rw [List.take_succ_cons, List.take_succ_cons], g3⟩
            · exfalso
              have hj1 : j = 1 := by omega
              subst hj1
              cases conts with
              | nil =>
                have := congrArg List.length e2
                rw [hbl] at this
                simp at this
                omega
              | cons c cs =>
                obtain ⟨⟨l', x, k1, k2⟩, -, -⟩ := e3
                rw [hbl, drop_byteAt s p (by omega), g1] at k1
                have hx : x = 32 := by
                  have := congrArg List.getLast? k1
                  simpa using this.symm
                rw [hx] at k2
                cases k2
      · rename_i hn
        split
        · exact whole
        · rename_i h998
          obtain ⟨g, k1, k2, k3, k4⟩ := hs b (Nat.le_refl _) (by omega)
          exact absurd (foldAt_some s b g k1 (by omega) (by omega) k4) hn
end Go.Proofs.YtieompfmhnpnaaaGreat.H

/-! Plain laws: a plain value comes back. -/
namespace Go.Proofs.YtieompfmhnpnaaaGreat.H
open Go.RowKit Go.Proofs.YtieompfmhnpnaaaGreatW.PrintWords Go.Proofs.YtieompfmhnpnaaaGreatW.PrintLast Go.Proofs.YtieompfmhnpnaaaGreatW.PrintMore
set_option linter.unusedVariables false
set_option linter.unusedSimpArgs false

/-- A part without white bytes at its ends. -/
def GoodT (t : List UInt8) : Prop := t ≠ [] ∧ trimL t = t
theorem rtrim_last (l : List UInt8) (x : UInt8) (h : l.getLast? = some x) (hx : wsB x = false) : rtrim l = l := by
  obtain ⟨l', rfl⟩ := List.getLast?_eq_some_iff.1 h
  rw [rtrim_snoc, hx]
  rfl
theorem goodT_of (y : UInt8) (r : List UInt8) (x : UInt8) (hy : wsB y = false) (h : (y :: r).getLast? = some x) (hx : wsB x = false) : GoodT (y :: r) := by
  refine ⟨by simp, ?_⟩
  unfold trimL
  rw [List.dropWhile_cons, hy]
  exact rtrim_last _ x h hx
theorem ws_of (x : UInt8) (h : blankB x = false) (hn : x ≠ 13 ∧ x ≠ 10) : wsB x = false := by
  unfold blankB at h
  unfold wsB
  simp at h ⊢
  exact ⟨⟨⟨h.2, hn.2⟩, hn.1⟩, h.1⟩
theorem cuts_ok : ∀ (conts : List (List UInt8)) (l : List UInt8), Cuts l conts → (∀ x ∈ l ++ conts.flatten, x ≠ 13 ∧ x ≠ 10) → (∃ x, (l ++ conts.flatten).getLast? = some x ∧ wsB x = false) →
    ∃ ts : List (List UInt8), conts = ts.map (fun t => 32 :: t) ∧ (∀ t ∈ ts, GoodT t) ∧ ∃ x, l.getLast? = some x ∧ wsB x = false
  | [], l, _, hn, hl => ⟨[], rfl, (fun t ht => by cases ht), (by simpa using hl)⟩
  | c :: cs, l, hcut, hn, hl => by
    obtain ⟨⟨l', x, e1, e2⟩, ⟨y, r, hcy, e4⟩, hc⟩ := hcut
    subst hcy
    rw [List.flatten_cons] at hn hl
    have hl2 : ∃ x, ((32 :: y :: r) ++ cs.flatten).getLast? = some x ∧ wsB x = false := by
      obtain ⟨z, hz, hw⟩ := hl
      refine ⟨z, ?_, hw⟩
      rw [List.getLast?_append] at hz
      have : ((32 :: y :: r) ++ cs.flatten).getLast? = some (((32 :: y :: r) ++ cs.flatten).getLast (by simp)) := List.getLast?_eq_some_getLast _
      rw [this] at hz ⊢
      simpa using hz
    obtain ⟨ts, k1, k2, z, k3, k4⟩ := cuts_ok cs (32 :: y :: r) hc (fun x hx => hn x (List.mem_append_right _ hx)) hl2
    refine ⟨(y :: r) :: ts, by rw [k1]; rfl, ?_, x, by rw [e1]; simp, ws_of x e2 (hn x (by rw [e1]; simp))⟩
    intro t ht
    rcases List.mem_cons.1 ht with rfl | ht
    · refine goodT_of y r z (ws_of y e4 (hn y (by simp))) ?_ k4
      rw [List.getLast?_cons_cons] at k3
      exact k3
    · exact k2 t ht
theorem trim_sp (t : List UInt8) : trimL (32 :: t) = trimL t := by
  unfold trimL
  rw [List.dropWhile_cons]
  rfl
theorem adds_good : ∀ (ts : List (List UInt8)) (vs : List ByteArray), (∀ t ∈ ts, GoodT t) → (ts.map (fun t => (32 : UInt8) :: t)).foldl (fun vs p => addV vs (mkB p)) vs = vs ++ ts.map mkB
  | [], vs, _ => by simp
  | t :: ts, vs, h => by
    rw [List.map_cons, List.foldl_cons]
    obtain ⟨h1, h2⟩ := h t List.mem_cons_self
    have e : trimS (mkB (32 :: t)) = mkB t := by
      unfold trimS
      rw [bl_mkB, trim_sp, h2]
    have e2 : addV vs (mkB (32 :: t)) = vs ++ [mkB t] := by
      unfold addV
      rw [e, mkB_size, if_neg (fun h => h1 (List.eq_nil_of_length_eq_zero h))]
    rw [e2, adds_good ts _ (fun t ht => h t (List.mem_cons_of_mem _ ht))]
    simp
theorem joinTail_flat : ∀ ts : List (List UInt8), Lib.joinTail [32] ts = (ts.map (fun t => (32 : UInt8) :: t)).flatten
  | [] => rfl
  | t :: ts => by
    have := joinTail_flat ts
    simp [Lib.joinTail] at this ⊢
theorem join_good (t : List UInt8) (ts : List (List UInt8)) (h : ∀ u ∈ t :: ts, GoodT u) :
    joinS (partsV ((t :: ts).map (fun t => (32 : UInt8) :: t))) = mkB (t ++ (ts.map (fun t => (32 : UInt8) :: t)).flatten) := by
  unfold partsV joinS
  rw [adds_good _ _ h, List.nil_append, List.map_map]
  have : (t :: ts).map (bl ∘ mkB) = t :: ts := by
    have : (bl ∘ mkB) = id := funext fun x => rfl
    rw [this, List.map_id]
  rw [this, Lib.join_cons, joinTail_flat]
end Go.Proofs.YtieompfmhnpnaaaGreat.H

/-! Plain laws: a field with a plain value comes back. -/
namespace Go.Proofs.YtieompfmhnpnaaaGreat.H
open Go.RowKit Go.Proofs.YtieompfmhnpnaaaGreatW.PrintWords Go.Proofs.YtieompfmhnpnaaaGreatW.PrintLast Go.Proofs.YtieompfmhnpnaaaGreatW.PrintMore
set_option linter.unusedVariables false
set_option linter.unusedSimpArgs false

theorem dropW_length (l : List UInt8) : (l.dropWhile wsB).length ≤ l.length := (List.dropWhile_sublist wsB).length_le
theorem rtrim_length (l : List UInt8) : (rtrim l).length ≤ l.length := by
  unfold rtrim
  rw [List.length_reverse]
  have := dropW_length l.reverse
  rw [List.length_reverse] at this
  exact this
theorem trim_ends (l : List UInt8) (h : trimL l = l) (h0 : l ≠ []) : (∃ y r, l = y :: r ∧ wsB y = false) ∧ ∃ x, l.getLast? = some x ∧ wsB x = false := by
  obtain ⟨y, r, rfl⟩ := List.exists_cons_of_ne_nil h0
  have hy : wsB y = false := by
    apply Bool.eq_false_iff.2
    intro hy
    unfold trimL at h
    rw [List.dropWhile_cons, if_pos hy] at h
    have h1 := rtrim_length (r.dropWhile wsB)
    have h2 := dropW_length r
    rw [h] at h1
    simp at h1
    omega
  refine ⟨⟨y, r, rfl, hy⟩, ?_⟩
  unfold trimL at h
  rw [List.dropWhile_cons, if_neg (by rw [hy]; decide)] at h
  have e : (y :: r).getLast? = some ((y :: r).getLast h0) := List.getLast?_eq_some_getLast _
  refine ⟨_, e, ?_⟩
  obtain ⟨l', hl'⟩ := List.getLast?_eq_some_iff.1 e
  apply Bool.eq_false_iff.2
  intro hx
  rw [hl', rtrim_snoc, if_pos hx] at h
  have h1 := rtrim_length l'
  rw [h] at h1
  simp at h1
  omega
theorem crlf_plain (s : ByteArray) (h : ∀ x ∈ bl s, x ≠ 13 ∧ x ≠ 10) : crlfS s = s := by
  apply bl_inj
  rw [bl_crlf]
  have : ∀ x ∈ bl s, crlfB x = id x := fun x hx => by
    unfold crlfB
    rw [if_neg (by have := h x hx; simp [this.1, this.2])]
    rfl
  rw [List.map_congr_left this, List.map_id]
theorem line_plain (f : S35) (hv : PlainV f.f1) : bl (lineS f) = bl f.f0 ++ 58 :: (if f.f1.size = 0 then [] else 32 :: bl f.f1) := by
  unfold lineS
  rw [crlf_plain _ hv.no, hv.trim]
  split
  · rw [bl_append]
  · rw [bl_append, bl_append, bl_append]
    simp [bl]
theorem cuts_flat (l : List UInt8) (conts : List (List UInt8)) (h : Cuts l conts) (he : conts.flatten = []) : conts = [] := by
  cases conts with
  | nil => rfl
  | cons c cs =>
    obtain ⟨-, ⟨y, r, rfl, -⟩, -⟩ := h
    simp at he
theorem back_value (f : S35) (hn : isNameB f.f0 = true) (hv : PlainV f.f1) : joinS (partsV (fieldPs f)) = f.f1 := by
  have hsz : f.f0.size ≤ 200 := by
    have hn := hn
    unfold isNameB at hn
    simp at hn
    exact hn.1.2
  have hline := line_plain f hv
  by_cases h0 : f.f1.size = 0
  · rw [if_pos h0] at hline
    have hls : (lineS f).size = f.f0.size + 1 := by rw [← bl_length, hline]; simp
    obtain ⟨j, conts, e1, e2, e3, e4⟩ := foldLs_soft (lineS f).size (lineS f) (f.f0.size + 1) (by omega) (fun a h1 h2 => by omega)
    have hj : (bl (lineS f)).take j = bl (lineS f) := List.take_of_length_le (by rw [bl_length]; omega)
    rw [hj] at e1 e2 e3
    have hc : conts = [] := cuts_flat _ _ e3 (by simpa using e2)
    subst hc
    have hp : fieldPs f = [[]] := by
      unfold fieldPs fieldLs
      rw [e1]
      simp only
      rw [List.drop_of_length_le (by rw [bl_length]; omega)]
    rw [hp]
    apply bl_inj
    have : bl f.f1 = [] := List.eq_nil_of_length_eq_zero (by rw [bl_length]; exact h0)
    rw [this]
    rfl
  · rw [if_neg h0] at hline
    have hlP : bl (lineS f) = (bl f.f0 ++ [58, 32]) ++ bl f.f1 := by rw [hline]; simp
    have hPl : (bl f.f0 ++ [(58 : UInt8), 32]).length = f.f0.size + 2 := by simp
    have hls : (lineS f).size = f.f0.size + 2 + f.f1.size := by rw [← bl_length, hlP, List.length_append, hPl, bl_length]
    have hat : ∀ i, i < f.f1.size → byteAt (lineS f) (f.f0.size + 2 + i) = byteAt f.f1 i := fun i hi => by
      have h1 := byteAt_list (lineS f) (f.f0.size + 2 + i) (by omega)
      rw [hlP, List.getElem?_append_right (by omega), hPl, Nat.add_sub_cancel_left, byteAt_list f.f1 i hi] at h1
      exact (Option.some.inj h1).symm
    have hfold : ∀ g, foldB f.f1 g = true → g + 1 < f.f1.size ∧ isFoldB (lineS f) (f.f0.size + 2 + g) = true := fun g hg => by
      unfold foldB at hg
      simp only [Bool.and_eq_true, decide_eq_true_eq] at hg
      obtain ⟨⟨h1, h2⟩, h3⟩ := hg
      refine ⟨h2, ?_⟩
      unfold isFoldB at h3 ⊢
      have e1 : f.f0.size + 2 + g - 1 = f.f0.size + 2 + (g - 1) := by omega
      rw [e1, Nat.add_assoc (f.f0.size + 2) g 1, hat g (by omega), hat (g - 1) (by omega), hat (g + 1) (by omega)]
      exact h3
    have hsoft : Soft (lineS f) (f.f0.size + 1) := fun a h1 h2 => by
      obtain ⟨g, k1, k2, k3⟩ := hv.gaps (a - (f.f0.size + 2)) (Nat.zero_le _) (by omega)
      obtain ⟨k4, k5⟩ := hfold g k3
      exact ⟨f.f0.size + 2 + g, by omega, by omega, by omega, k5⟩
    obtain ⟨j, conts, e1, e2, e3, e4⟩ := foldLs_soft (lineS f).size (lineS f) (f.f0.size + 1) (by omega) hsoft
    have hne : bl f.f1 ≠ [] := fun h => h0 (by rw [← bl_length, h]; rfl)
    have htrim : trimL (bl f.f1) = bl f.f1 := by
      have := congrArg bl hv.trim
      exact this
    obtain ⟨⟨y, r, hy1, hy2⟩, x, hx1, hx2⟩ := trim_ends _ htrim hne
    obtain ⟨ts, c1, c2, z, c3, c4⟩ := cuts_ok conts ((bl (lineS f)).take j) e3
      (fun x hx => by
        rw [e2] at hx
        exact ⟨fun h => line_no hn 13 (.inl rfl) (h ▸ hx), fun h => line_no hn 10 (.inr rfl) (h ▸ hx)⟩)
      ⟨x, by rw [e2, hlP, List.getLast?_append, hx1]; rfl, hx2⟩
    have hj2 : f.f0.size + 2 ≤ j := by omega
    obtain ⟨m, rfl⟩ : ∃ m, j = f.f0.size + 2 + m := ⟨j - (f.f0.size + 2), by omega⟩
    have htake : (bl (lineS f)).take (f.f0.size + 2 + m) = (bl f.f0 ++ [58, 32]) ++ (bl f.f1).take m := by
      rw [hlP, List.take_append, hPl, Nat.add_sub_cancel_left, List.take_of_length_le (by omega)]
    rw [htake] at e1 e2 c3
    have ht : (bl f.f0 ++ [(58 : UInt8), 32] ++ (bl f.f1).take m).drop (f.f0.size + 1) = 32 :: (bl f.f1).take m := by
      have : bl f.f0 ++ [(58 : UInt8), 32] ++ (bl f.f1).take m = (bl f.f0 ++ [58]) ++ 32 :: (bl f.f1).take m := by simp
      rw [this]
      have hl : f.f0.size + 1 = (bl f.f0 ++ [(58 : UInt8)]).length := by simp
      rw [hl, List.drop_left]
    have hm : m ≠ 0 := by
      rintro rfl
      simp at c3
      rw [← c3] at c4
      cases c4
    obtain ⟨m, rfl⟩ : ∃ m', m = m' + 1 := ⟨m - 1, by omega⟩
    have hg : GoodT ((bl f.f1).take (m + 1)) := by
      rw [hy1, List.take_succ_cons] at c3 ⊢
      refine goodT_of y _ z hy2 ?_ c4
      rw [List.getLast?_append] at c3
      have : (y :: r.take m).getLast? = some ((y :: r.take m).getLast (by simp)) := List.getLast?_eq_some_getLast _
      rw [this] at c3 ⊢
      simpa using c3
    have hp : fieldPs f = (((bl f.f1).take (m + 1)) :: ts).map (fun t => (32 : UInt8) :: t) := by
      unfold fieldPs fieldLs
      rw [e1]
      simp only
      rw [ht, c1]
      rfl
    rw [hp, join_good _ _ (fun u hu => by
      rcases List.mem_cons.1 hu with rfl | hu
      · exact hg
      · exact c2 u hu), ← c1]
    rw [hlP, List.append_assoc] at e2
    rw [List.append_cancel_left e2]
theorem back_fields (l : List S35) (h : ∀ f ∈ l, isNameB f.f0 = true ∧ PlainV f.f1) : parsedF (writtenF l) = l := by
  unfold parsedF writtenF
  rw [List.filter_eq_self.2 (fun f hf => (h f hf).1), List.map_map]
  have : ∀ f ∈ l, ((fun f : ByteArray × List (List UInt8) × List (List UInt8) => (⟨f.1, joinS (partsV f.2.2)⟩ : S35)) ∘ fun f : S35 => (f.f0, fieldLs f, fieldPs f)) f = id f := fun f hf => by
    show (⟨f.f0, joinS (partsV (fieldPs f))⟩ : S35) = f
    rw [back_value f (h f hf).1 (h f hf).2]
  rw [List.map_congr_left this, List.map_id]
end Go.Proofs.YtieompfmhnpnaaaGreat.H

/-! Plain law of HeaderBack: what it computes is true. -/
namespace Go.Proofs.YtieompfmhnpnaaaGreat.H
open Go.RowKit Go.Proofs.YtieompfmhnpnaaaGreatW.PrintWords Go.Proofs.YtieompfmhnpnaaaGreatW.PrintLast Go.Proofs.YtieompfmhnpnaaaGreatW.PrintMore
set_option linter.unusedVariables false
set_option linter.unusedSimpArgs false

theorem wsum_bytes2 (l : List S35) : wsum l = 4 * bytesF l + 16 * l.length := by
  induction l with
  | nil => rfl
  | cons x l ih =>
    rw [wsum_cons, ih]
    simp [bytesF]
    omega
theorem back_l0 (l : List S35) (body : ByteArray) (hf : fewS l = true) (hl : l.length ≤ 400) (hb : body.size ≤ 1000) : ∀ (n i : Nat), i + n = l.length → (∀ f ∈ l.take i, isNameB f.f0 = true ∧ PlainV f.f1) →
    Ev (fun k => missivelaw09_HeaderBack.l0 k l body true (i : Int)) true
  | 0, i, hi, hx => by
    rw [List.take_of_length_le (by omega)] at hx
    obtain ⟨hs, _, hbytes, hx2⟩ := fewS_small hf
    have hw : wsum l ≤ 100000 := by rw [wsum_bytes2]; omega
    have hlen := writeL_length l
    have hsz : (mkB (writeL l)).size = (writeL l).length := mkB_size _
    have w1 : header_Write.f l = some (mkB (writeL l)) := by unfold header_Write.f; rw [if_pos (by omega)]
    have e10 : (mkB (writeL l) ++ (⟨#[10]⟩ : ByteArray)) ++ body = mkB (writeL l ++ 10 :: bl body) := bl_inj (by
      rw [bl_append, bl_append, bl_mkB, bl_mkB]
      simp [bl])
    have w3 : header_Parse.f ((mkB (writeL l) ++ (⟨#[10]⟩ : ByteArray)) ++ body) = some (l, (((writeL l).length + 1 : Nat) : Int)) := by
      rw [e10]
      unfold header_Parse.f
      rw [if_pos (by rw [mkB_size]; simp; omega), parse_write_rest l (bl body) hl, back_fields l hx]
    have s10 : (mkB (writeL l) ++ (⟨#[10]⟩ : ByteArray)).size = (writeL l).length + 1 := by rw [ByteArray.size_append, hsz]; rfl
    refine Ev.step (fun k => by simp only [missivelaw09_HeaderBack.l0]; rfl) ?_
    refine ev_no (by omega) ?_
    simp only [w1, w3, Option.bind_some, hsz, s10]
    refine ev_yes (by omega) ?_
    refine ev_yes (by omega) ?_
    refine ev_yes (by trivial) ?_
    refine ev_yes (by trivial) ?_
    refine Ev.bind (eqf_ev _ _ (by omega)) ?_
    exact ev_done (by rw [eqF_refl])
  | n + 1, i, hi, hx => by
    obtain ⟨hs, _, hbytes, hx2⟩ := fewS_small hf
    have hm : rd_T35 l (i : Int) ∈ l := by
      rw [rd35 l i (by omega)]
      exact List.getElem_mem _
    have hsz := hx2 _ hm
    refine Ev.step (fun k => by simp only [missivelaw09_HeaderBack.l0]; rfl) ?_
    refine ev_yes (by omega) ?_
    refine ev_yes (by omega) ?_
    refine Ev.bind (named_ev _ (by omega)) ?_
    by_cases h : isNameB (rd_T35 l (i : Int)).f0 = true
    · refine ev_yes h ?_
      obtain ⟨b, hev, hb2⟩ := plain_ev (rd_T35 l (i : Int)).f1 (by omega)
      refine Ev.bind hev ?_
      by_cases hbt : b = true
      · refine ev_yes hbt ?_
        rw [wrap_up i (by omega)]
        refine back_l0 l body hf hl hb n (i + 1) (by omega) (fun f hfm => ?_)
        rw [List.take_succ_eq_append_getElem (by omega), List.mem_append, List.mem_singleton] at hfm
        rcases hfm with hfm | rfl
        · exact hx f hfm
        · rw [← rd35 l i (by omega)]
          exact ⟨h, hb2 hbt⟩
      · exact ev_no hbt (Ev.now _)
    · exact ev_no h (Ev.now _)
theorem back_j0_done (l : List S35) (v : ByteArray) : Ev (fun k => missivelaw09_HeaderBack.j0 k l v true true) true := by
  refine Ev.step (fun k => by simp only [missivelaw09_HeaderBack.j0]; rfl) ?_
  exact ev_yes (by trivial) (Ev.now _)
theorem back_ev (l : List S35) (body : ByteArray) (hlen : l.length ≤ 4398046511104) : Ev (fun k => missivelaw09_HeaderBack.f k l body) true := by
  unfold missivelaw09_HeaderBack.f
  refine Ev.bind small_ev ?_
  refine Ev.bind (few_ev l hlen) ?_
  by_cases hf : fewS l = true
  · refine ev_yes hf ?_
    by_cases h1 : l.length ≤ 400
    · refine ev_no (by omega) ?_
      by_cases h2 : body.size ≤ 1000
      · have e : decide ((body.size : Int) > 1000) = false := by simp; omega
        simp only [e]
        refine Ev.step (fun k => by simp only [missivelaw09_HeaderBack.j0]; rfl) ?_
        refine ev_no (by decide) ?_
        exact back_l0 l body hf h1 h2 l.length 0 (by omega) (fun f hf => by simp at hf)
      · have e : decide ((body.size : Int) > 1000) = true := by simp; omega
        simp only [e]
        exact back_j0_done l body
    · exact ev_yes (by omega) (back_j0_done l body)
  · exact ev_no hf (back_j0_done l body)
end Go.Proofs.YtieompfmhnpnaaaGreat.H
