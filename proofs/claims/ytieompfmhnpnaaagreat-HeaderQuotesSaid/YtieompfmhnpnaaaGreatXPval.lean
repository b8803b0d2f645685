/- Plain words: the value of a parameter. -/
import Derived.Test.YtieompfmhnpnaaaGreatB0
import Derived.Test.YtieompfmhnpnaaaGreatBb
import Derived.Test.YtieompfmhnpnaaaGreatXQa
-- needs: header_paramValue header_visible strings_HasPrefix
namespace Go.Proofs.YtieompfmhnpnaaaGreat.H
open Go.RowKit Go.Proofs.YtieompfmhnpnaaaGreatW.PrintWords Go.Proofs.YtieompfmhnpnaaaGreatW.PrintLast Go.Proofs.YtieompfmhnpnaaaGreatW.PrintMore
set_option linter.unusedVariables false
set_option linter.unusedSimpArgs false

/-- What a quotation contains, from behind its first mark on. -/
def unqL : List UInt8 → List UInt8 → List UInt8 × Bool
  | [], _ => ([], false)
  | [c], acc => if c = 34 then (acc, true) else ([], false)
  | c :: d :: r, acc => if c = 34 then ([], false) else if c = 92 then unqL r (acc ++ [d]) else unqL (d :: r) (acc ++ [c])
def unqB (p : List UInt8 × Bool) : ByteArray × Bool := (mkB p.1, p.2)
theorem unq_l0 (s : ByteArray) (hs : s.size ≤ 1099511627776) : ∀ (n i : Nat) (acc : List UInt8), i + n = s.size → acc.length ≤ i →
    Ev (fun k => header_unquoted.l0 k s (ints acc) (i : Int)) (unqB (unqL ((bl s).drop i) acc))
  | 0, i, acc, hi, ha => by
    have hl := bl_length s
    refine Ev.step (fun k => by simp only [header_unquoted.l0]; rfl) ?_
    refine ev_no (by omega) ?_
    exact ev_done (by rw [List.drop_of_length_le (by omega)]; rfl)
  | 1, i, acc, hi, ha => by
    have hl := bl_length s
    refine Ev.step (fun k => by simp only [header_unquoted.l0]; rfl) ?_
    have hb := bt_byteAt s i (by omega)
    rw [drop_byteAt s i (by omega), List.drop_of_length_le (by omega)]
    refine ev_yes (by omega) ?_
    refine ev_yes (by omega) ?_
    simp only [hb, wrap_up i (by omega)]
    by_cases c34 : byteAt s i = 34
    · refine ev_yes (by rw [c34]; rfl) ?_
      refine ev_no (by omega) ?_
      refine ev_done ?_
      unfold unqL
      rw [if_pos c34, ints_back]
      rfl
    · have n34 : ¬ ((byteAt s i).toNat : Int) = 34 := fun e => c34 (by rw [← UInt8.toNat_inj]; show _ = 34; omega)
      refine ev_no n34 ?_
      have e1 : unqB (unqL [byteAt s i] acc) = ((⟨#[]⟩ : ByteArray), false) := by unfold unqL; rw [if_neg c34]; rfl
      rw [e1]
      by_cases c92 : byteAt s i = 92
      · refine ev_yes (by rw [c92]; rfl) ?_
        refine ev_yes (by omega) ?_
        exact Ev.now _
      · have n92 : ¬ ((byteAt s i).toNat : Int) = 92 := fun e => c92 (by rw [← UInt8.toNat_inj]; show _ = 92; omega)
        refine ev_no n92 ?_
        refine ev_yes (by rw [ints_length]; omega) ?_
        have := unq_l0 s hs 0 (i + 1) (acc ++ [byteAt s i]) (by omega) (by simp; omega)
        rw [List.drop_of_length_le (by omega), ints_append] at this
        exact this
  | n + 2, i, acc, hi, ha => by
    have hl := bl_length s
    refine Ev.step (fun k => by simp only [header_unquoted.l0]; rfl) ?_
    have hb := bt_byteAt s i (by omega)
    have hb1 := bt_byteAt s (i + 1) (by omega)
    rw [drop_byteAt s i (by omega), drop_byteAt s (i + 1) (by omega)]
    refine ev_yes (by omega) ?_
    refine ev_yes (by omega) ?_
    simp only [hb, wrap_up i (by omega), hb1, wrap_up (i + 1) (by omega)]
    by_cases c34 : byteAt s i = 34
    · refine ev_yes (by rw [c34]; rfl) ?_
      refine ev_yes (by omega) ?_
      refine ev_done ?_
      unfold unqL
      rw [if_pos c34]
      rfl
    · have n34 : ¬ ((byteAt s i).toNat : Int) = 34 := fun e => c34 (by rw [← UInt8.toNat_inj]; show _ = 34; omega)
      refine ev_no n34 ?_
      by_cases c92 : byteAt s i = 92
      · refine ev_yes (by rw [c92]; rfl) ?_
        refine ev_no (by omega) ?_
        refine ev_yes (by omega) ?_
        refine ev_yes (by omega) ?_
        refine ev_yes (by rw [ints_length]; omega) ?_
        have e1 : unqL (byteAt s i :: byteAt s (i + 1) :: (bl s).drop (i + 1 + 1)) acc = unqL ((bl s).drop (i + 1 + 1)) (acc ++ [byteAt s (i + 1)]) := by
          rw [unqL, if_neg c34, if_pos c92]
        rw [e1]
        have := unq_l0 s hs n (i + 1 + 1) (acc ++ [byteAt s (i + 1)]) (by omega) (by simp; omega)
        rw [ints_append] at this
        exact this
      · have n92 : ¬ ((byteAt s i).toNat : Int) = 92 := fun e => c92 (by rw [← UInt8.toNat_inj]; show _ = 92; omega)
        refine ev_no n92 ?_
        refine ev_yes (by rw [ints_length]; omega) ?_
        have e1 : unqL (byteAt s i :: byteAt s (i + 1) :: (bl s).drop (i + 1 + 1)) acc = unqL ((bl s).drop (i + 1)) (acc ++ [byteAt s i]) := by
          rw [unqL, if_neg c34, if_neg c92, ← drop_byteAt s (i + 1) (by omega)]
        rw [e1]
        have := unq_l0 s hs (n + 1) (i + 1) (acc ++ [byteAt s i]) (by omega) (by simp; omega)
        rw [ints_append] at this
        exact this

/-- The value of a parameter. -/
def valueS (s : ByteArray) : ByteArray × Bool :=
  if (bl s).head? = some 34 then unqB (unqL ((bl s).drop 1) [])
  else if (bl s).all (fun c => visB c && c != 34) then (s, !(bl s).isEmpty) else ((⟨#[]⟩ : ByteArray), false)

theorem pval_l0 (s : ByteArray) (hs : s.size ≤ 1099511627776) : ∀ (n i : Nat), i + n = s.size →
    Ev (fun k => header_paramValue.l0 k s (s.size : Int) (i : Int)) (if ((bl s).drop i).all (fun c => visB c && c != 34) then (s, !(bl s).isEmpty) else ((⟨#[]⟩ : ByteArray), false))
  | 0, i, hi => by
    have hl := bl_length s
    refine Ev.step (fun k => by simp only [header_paramValue.l0]; rfl) ?_
    refine ev_no (by omega) ?_
    refine ev_done ?_
    rw [List.drop_of_length_le (by omega), toList_bl]
    cases h : bl s <;> rfl
  | n + 1, i, hi => by
    refine Ev.step (fun k => by simp only [header_paramValue.l0]; rfl) ?_
    have hb := bt_byteAt s i (by omega)
    refine ev_yes (by omega) ?_
    refine ev_yes (by omega) ?_
    refine ev_yes (by omega) ?_
    simp only [hb, visible_at, Option.bind_some]
    rw [drop_byteAt s i (by omega), List.all_cons]
    by_cases hv : visB (byteAt s i) = true
    · simp only [hv, if_true, Bool.true_and]
      by_cases c34 : byteAt s i = 34
      · have h2 : (byteAt s i != 34) = false := by rw [c34]; rfl
        rw [h2]
        refine ev_yes (by rw [c34]; rfl) ?_
        simp only [Bool.false_and]
        exact Ev.now _
      · have n34 : ¬ ((byteAt s i).toNat : Int) = 34 := fun e => c34 (by rw [← UInt8.toNat_inj]; show _ = 34; omega)
        have h2 : (byteAt s i != 34) = true := by simpa using c34
        rw [h2]
        refine ev_no n34 ?_
        simp only [Bool.true_and]
        rw [wrap_up i (by omega)]
        exact pval_l0 s hs n (i + 1) (by omega)
    · have hv' : visB (byteAt s i) = false := by simpa using hv
      simp only [hv', Bool.false_and]
      exact Ev.now _

theorem prefix_34 (s : ByteArray) (hs : s.size ≤ 1099511627776) : strings_HasPrefix.f s (⟨#[34]⟩ : ByteArray) = some (decide ((bl s).head? = some 34)) := by
  unfold strings_HasPrefix.f stringslite_HasPrefix.f
  have e1 : (⟨#[34]⟩ : ByteArray).size = 1 := rfl
  have e2 : (⟨#[34]⟩ : ByteArray).toList = [34] := by rw [toList_bl]
  rw [e1, e2]
  have hl := bl_length s
  by_cases h : 1 ≤ s.size
  · have q1 : (s.size : Int) ≥ ((1 : Nat) : Int) := by omega
    have q2 : (0 : Int) ≤ ((1 : Nat) : Int) := by omega
    have q3 : ((1 : Nat) : Int) ≤ (s.size : Int) := by omega
    simp only [if_pos q1, if_pos q2, if_pos q3, Int.toNat_natCast, Option.bind_some]
    congr 1
    rw [toList_bl, bl_extract]
    have hd := drop_byteAt s 0 (by omega)
    rw [List.drop_zero] at hd
    rw [hd]
    simp
    rw [Bool.eq_iff_iff]
    simp
  · have q1 : ¬ (s.size : Int) ≥ ((1 : Nat) : Int) := by omega
    simp only [if_neg q1]
    have : bl s = [] := List.eq_nil_of_length_eq_zero (by omega)
    rw [this]
    rfl

theorem value_ev (s : ByteArray) (hs : s.size ≤ 1099511627776) : Ev (fun k => header_paramValue.f k s) (valueS s) := by
  unfold header_paramValue.f valueS
  simp only [prefix_34 s hs, Option.bind_some]
  by_cases h : (bl s).head? = some 34
  · simp only [h, decide_true, if_true]
    have hl : 1 ≤ s.size := by
      rw [← bl_length]
      cases hb : bl s with
      | nil => rw [hb] at h; cases h
      | cons _ _ => simp
    have := unq_l0 s hs (s.size - 1) 1 [] (by omega) (by simp)
    have h2 : Ev (fun k => header_unquoted.f k s) (unqB (unqL ((bl s).drop 1) [])) := by
      unfold header_unquoted.f
      exact this
    exact Ev.bind h2 (ev_done rfl)
  · simp only [h, decide_false, Bool.false_eq_true, if_false]
    have := pval_l0 s hs s.size 0 (by omega)
    simpa using this
end Go.Proofs.YtieompfmhnpnaaaGreat.H
