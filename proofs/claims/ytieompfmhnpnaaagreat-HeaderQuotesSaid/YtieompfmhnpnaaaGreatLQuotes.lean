/- Plain law: HeaderQuotes. -/
import Derived.Test.YtieompfmhnpnaaaGreatB30
import Derived.Test.YtieompfmhnpnaaaGreatLPar
import Derived.Test.YtieompfmhnpnaaaGreatLSameP
namespace Go.Proofs.YtieompfmhnpnaaaGreat.H
open Go.RowKit Go.Proofs.YtieompfmhnpnaaaGreatW.PrintWords Go.Proofs.YtieompfmhnpnaaaGreatW.PrintLast Go.Proofs.YtieompfmhnpnaaaGreatW.PrintMore
set_option linter.unusedVariables false
set_option linter.unusedSimpArgs false

theorem rd25 (l : List S25) (i : Nat) (h : i < l.length) : rd_T25 l (i : Int) = l[i] := by simp [rd_T25, List.getD, h]
theorem psum_le (l : List S25) (h : ∀ p ∈ l, p.f0.size ≤ 300 ∧ p.f1.size ≤ 300) : psum l ≤ 2416 * l.length := by
  induction l with
  | nil => exact Nat.le_refl _
  | cons p l ih =>
    have h1 := h p (by simp)
    have h2 := ih (fun q hq => h q (by simp [hq]))
    unfold psum at *
    rw [List.map_cons, List.sum_cons, List.length_cons]
    omega
/-- A good parameter. -/
def GoodP (p : S25) : Prop := p.f0.size ≤ 300 ∧ p.f1.size ≤ 300 ∧ isTokenB p.f0 = true ∧ lowS p.f0 = p.f0
theorem quotes_end (m : ByteArray) (l : List S25) (hm0 : m.size ≤ 300) (hl0 : l.length ≤ 40) (hm : ∀ c ∈ bl m, c ≠ 34 ∧ c ≠ 59) (htm : trimS m = m) (hl : ∀ p ∈ l, GoodP p) (hd : (l.map (·.f0)).Nodup) (i : Int) (hi : ¬ i < (l.length : Int)) :
    Ev (fun k => missivelaw09_HeaderQuotes.l1 k m l true i) true := by
  refine Ev.step (fun k => by simp only [missivelaw09_HeaderQuotes.l1]; rfl) ?_
  refine ev_no hi ?_
  have hp := psum_le l (fun p hp => ⟨(hl p hp).1, (hl p hp).2.1⟩)
  have hq : header_Quote.f m l = some (mkB (quoteL m l)) := by unfold header_Quote.f; rw [if_pos (by omega)]
  have hsz : (mkB (quoteL m l)).size ≤ 8388608 := by rw [mkB_size]; have := quoteL_length m l; omega
  have hP : header_Params.f (mkB (quoteL m l)) = some (m, l) := by
    unfold header_Params.f
    rw [if_pos hsz, params_quote m l hm htm (fun p hp => ⟨(hl p hp).2.2.1, (hl p hp).2.2.2⟩) hd]
  simp only [hq, hP, Option.bind_some]
  refine ev_yes (by trivial) ?_
  refine ev_yes (by trivial) ?_
  refine Ev.bind (samep_ev l (by omega)) ?_
  refine ev_yes (by trivial) ?_
  exact ev_done (by simp)
mutual
theorem quotes_l1 (m : ByteArray) (l : List S25) (hm0 : m.size ≤ 300) (hl0 : l.length ≤ 40) (hm : ∀ c ∈ bl m, c ≠ 34 ∧ c ≠ 59) (htm : trimS m = m) : ∀ (n i : Nat), i + n = l.length → (∀ p ∈ l.take i, GoodP p) → ((l.take i).map (·.f0)).Nodup →
    Ev (fun k => missivelaw09_HeaderQuotes.l1 k m l true (i : Int)) true
  | 0, i, hi, hg, hd => by
    rw [List.take_of_length_le (by omega)] at hg hd
    exact quotes_end m l hm0 hl0 hm htm hg hd _ (by omega)
  | n + 1, i, hi, hg, hd => by
    refine Ev.step (fun k => by simp only [missivelaw09_HeaderQuotes.l1]; rfl) ?_
    refine ev_yes (by omega) ?_
    refine ev_yes (by omega) ?_
    have hr := rd25 l i (by omega)
    have jd : ∀ (x y : ByteArray), Ev (fun k => missivelaw09_HeaderQuotes.j3 k m l true (i : Int) true x y) true := fun x y => by
      refine Ev.step (fun k => by simp only [missivelaw09_HeaderQuotes.j3]; rfl) ?_
      exact ev_yes (by trivial) (Ev.now _)
    rw [hr]
    by_cases h0 : (l[i].f0.size : Int) > 300
    · exact ev_yes h0 (jd _ _)
    · refine ev_no h0 ?_
      by_cases h1 : (l[i].f1.size : Int) > 300
      · exact ev_yes h1 (jd _ _)
      · refine ev_no h1 ?_
        refine Ev.bind (token_ev _ (by omega)) ?_
        by_cases h2 : isTokenB l[i].f0 = true
        · refine ev_yes h2 ?_
          have hL : text_Lower.f l[i].f0 = some (lowS l[i].f0) := by unfold text_Lower.f; rw [if_pos (by omega)]
          simp only [hL, Option.bind_some]
          by_cases h3 : lowS l[i].f0 = l[i].f0
          · have e : ((lowS l[i].f0).toList != l[i].f0.toList) = false := by rw [h3]; simp
            simp only [e]
            refine Ev.step (fun k => by simp only [missivelaw09_HeaderQuotes.j3]; rfl) ?_
            refine ev_no (by decide) ?_
            exact quotes_l2 m l hm0 hl0 hm htm n i (by omega) hg hd ⟨by omega, by omega, h2, h3⟩ i 0 (by omega) (fun q hq => by simp at hq)
          · have e : ((lowS l[i].f0).toList != l[i].f0.toList) = true := by
              rw [bne_iff_ne, toList_bl, toList_bl]
              exact fun h => h3 (bl_inj h)
            simp only [e]
            exact jd _ _
        · exact ev_no h2 (jd _ _)
theorem quotes_l2 (m : ByteArray) (l : List S25) (hm0 : m.size ≤ 300) (hl0 : l.length ≤ 40) (hm : ∀ c ∈ bl m, c ≠ 34 ∧ c ≠ 59) (htm : trimS m = m) (n i : Nat) (hi : i + (n + 1) = l.length) (hg : ∀ p ∈ l.take i, GoodP p) (hd : ((l.take i).map (·.f0)).Nodup) (hgi : GoodP l[i]) : ∀ (d j : Nat), j + d = i → (∀ q ∈ l.take j, q.f0 ≠ l[i].f0) →
    Ev (fun k => missivelaw09_HeaderQuotes.l2 k m l true (i : Int) (j : Int) l[i].f0 l[i].f1) true
  | 0, j, hj, hne => by
    refine Ev.step (fun k => by simp only [missivelaw09_HeaderQuotes.l2]; rfl) ?_
    refine ev_no (by omega) ?_
    rw [wrap_up i (by omega)]
    obtain rfl : j = i := by omega
    refine quotes_l1 m l hm0 hl0 hm htm n (j + 1) (by omega) ?_ ?_
    · intro p hp
      rw [List.take_succ_eq_append_getElem (by omega), List.mem_append] at hp
      rcases hp with hp | hp
      · exact hg p hp
      · obtain rfl : p = l[j] := by simpa using hp
        exact hgi
    · rw [List.take_succ_eq_append_getElem (by omega), List.map_append, List.nodup_append]
      refine ⟨hd, by simp, ?_⟩
      intro a ha b hb
      obtain rfl : b = l[j].f0 := by simpa using hb
      obtain ⟨q, hq, rfl⟩ := List.mem_map.1 ha
      exact hne q hq
  | d + 1, j, hj, hne => by
    refine Ev.step (fun k => by simp only [missivelaw09_HeaderQuotes.l2]; rfl) ?_
    refine ev_yes (by omega) ?_
    refine ev_yes (by omega) ?_
    refine ev_yes (by omega) ?_
    rw [rd25 l j (by omega)]
    by_cases h : l[j].f0 = l[i].f0
    · exact ev_yes (by rw [h]) (Ev.now _)
    · refine ev_no (fun e => h (bl_inj (by rw [← toList_bl, ← toList_bl]; exact e))) ?_
      rw [wrap_up j (by omega)]
      refine quotes_l2 m l hm0 hl0 hm htm n i hi hg hd hgi d (j + 1) (by omega) ?_
      intro q hq
      rw [List.take_succ_eq_append_getElem (by omega), List.mem_append] at hq
      rcases hq with hq | hq
      · exact hne q hq
      · obtain rfl : q = l[j] := by simpa using hq
        exact h
end
theorem quotes_l0 (m : ByteArray) (l : List S25) (hm0 : m.size ≤ 300) (hl0 : l.length ≤ 40) (htm : trimS m = m) : ∀ (n i : Nat), i + n = m.size → (∀ c ∈ (bl m).take i, c ≠ 34 ∧ c ≠ 59) →
    Ev (fun k => missivelaw09_HeaderQuotes.l0 k m l true (i : Int)) true
  | 0, i, hi, hm => by
    refine Ev.step (fun k => by simp only [missivelaw09_HeaderQuotes.l0]; rfl) ?_
    refine ev_no (by omega) ?_
    rw [List.take_of_length_le (by rw [bl_length]; omega)] at hm
    exact quotes_l1 m l hm0 hl0 hm htm l.length 0 (by omega) (fun p hp => by simp at hp) (by simp)
  | n + 1, i, hi, hm => by
    refine Ev.step (fun k => by simp only [missivelaw09_HeaderQuotes.l0]; rfl) ?_
    refine ev_yes (by omega) ?_
    refine ev_yes (by omega) ?_
    have hb := bt_byteAt m i (by omega)
    rw [hb]
    by_cases h1 : byteAt m i = 59
    · exact ev_yes (by rw [h1]; rfl) (Ev.now _)
    · have n1 : ¬ ((byteAt m i).toNat : Int) = 59 := fun e => h1 (by rw [← UInt8.toNat_inj]; show _ = 59; omega)
      refine ev_no n1 ?_
      by_cases h2 : byteAt m i = 34
      · exact ev_yes (by rw [h2]; rfl) (Ev.now _)
      · have n2 : ¬ ((byteAt m i).toNat : Int) = 34 := fun e => h2 (by rw [← UInt8.toNat_inj]; show _ = 34; omega)
        refine ev_no n2 ?_
        rw [wrap_up i (by omega)]
        refine quotes_l0 m l hm0 hl0 htm n (i + 1) (by omega) ?_
        intro c hc
        rw [take_byteAt m i (by omega), List.mem_append] at hc
        rcases hc with hc | hc
        · exact hm c hc
        · obtain rfl : c = byteAt m i := by simpa using hc
          exact ⟨h2, h1⟩
theorem quotes_j0_done (m : ByteArray) (l : List S25) : Ev (fun k => missivelaw09_HeaderQuotes.j0 k m l true true) true := by
  refine Ev.step (fun k => by simp only [missivelaw09_HeaderQuotes.j0]; rfl) ?_
  exact ev_yes (by trivial) (Ev.now _)
theorem quotes_ev (m : ByteArray) (l : List S25) : Ev (fun k => missivelaw09_HeaderQuotes.f k m l) true := by
  unfold missivelaw09_HeaderQuotes.f
  refine Ev.bind small_ev ?_
  by_cases h1 : (m.size : Int) > 300
  · exact ev_yes h1 (quotes_j0_done m l)
  · refine ev_no h1 ?_
    by_cases h2 : (l.length : Int) > 40
    · exact ev_yes h2 (quotes_j0_done m l)
    · refine ev_no h2 ?_
      refine Ev.bind (trim_ev m (by omega)) ?_
      by_cases h3 : trimS m = m
      · have e : ((trimS m).toList != m.toList) = false := by rw [h3]; simp
        simp only [e]
        refine Ev.step (fun k => by simp only [missivelaw09_HeaderQuotes.j0]; rfl) ?_
        refine ev_no (by decide) ?_
        exact quotes_l0 m l (by omega) (by omega) h3 m.size 0 (by omega) (fun c hc => by simp at hc)
      · have e : ((trimS m).toList != m.toList) = true := by
          rw [bne_iff_ne, toList_bl, toList_bl]
          exact fun h => h3 (bl_inj h)
        simp only [e]
        exact quotes_j0_done m l
end Go.Proofs.YtieompfmhnpnaaaGreat.H
