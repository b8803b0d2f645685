/- Plain laws: what Same, Get, All, Set and Drop compute, on lists. -/
import Derived.Test.YtieompfmhnpnaaaGreatB0
import Derived.Test.YtieompfmhnpnaaaGreatBa
import Derived.Test.YtieompfmhnpnaaaGreatBb
import Derived.Test.YtieompfmhnpnaaaGreatXPlain
import Derived.Test.YtieompfmhnpnaaaGreatXStr
-- needs: text_Same header_Get header_All header_Set header_Drop missiveref09_Same missivelaw09_few
namespace Go.Proofs.YtieompfmhnpnaaaGreat.H
open Go.RowKit Go.Proofs.YtieompfmhnpnaaaGreatW.PrintWords Go.Proofs.YtieompfmhnpnaaaGreatW.PrintLast Go.Proofs.YtieompfmhnpnaaaGreatW.PrintMore
set_option linter.unusedVariables false
set_option linter.unusedSimpArgs false

/-- Two strings are the same but for the case of letters. -/
def sameB (a b : ByteArray) : Bool := (bl a).map lowB == (bl b).map lowB
theorem same_l0 (a b : ByteArray) (hs : a.size ≤ 1099511627776) (hab : a.size = b.size) : ∀ (n i : Nat), i + n = a.size →
    Ev (fun k => text_Same.l0 k a b (a.size : Int) (i : Int)) (((bl a).drop i).map lowB == ((bl b).drop i).map lowB)
  | 0, i, hi => by
    have hl := bl_length a
    have hl2 := bl_length b
    refine Ev.step (fun k => by simp only [text_Same.l0]; rfl) ?_
    refine ev_no (by omega) ?_
    exact ev_done (by rw [List.drop_of_length_le (by omega), List.drop_of_length_le (by omega)]; rfl)
  | n + 1, i, hi => by
    refine Ev.step (fun k => by simp only [text_Same.l0]; rfl) ?_
    have hb := bt_byteAt a i (by omega)
    have hb2 := bt_byteAt b i (by omega)
    refine ev_yes (by omega) ?_
    refine ev_yes (by omega) ?_
    refine ev_yes (by omega) ?_
    simp only [hb, lower_at, Option.bind_some]
    refine ev_yes (by omega) ?_
    simp only [hb2, lower_at, Option.bind_some]
    rw [drop_byteAt a i (by omega), drop_byteAt b i (by omega), List.map_cons, List.map_cons]
    by_cases h : lowB (byteAt a i) = lowB (byteAt b i)
    · refine ev_yes (by rw [h]) ?_
      rw [h, List.cons_beq_cons, beq_self_eq_true, Bool.true_and, wrap_up i (by omega)]
      exact same_l0 a b hs hab n (i + 1) (by omega)
    · refine ev_no (fun e => h (by rw [← UInt8.toNat_inj]; omega)) ?_
      rw [List.cons_beq_cons, beq_eq_false_iff_ne.2 h, Bool.false_and]
      exact Ev.now _
theorem same_ev (a b : ByteArray) (hs : a.size ≤ 1099511627776) : Ev (fun k => text_Same.f k a b) (sameB a b) := by
  unfold text_Same.f sameB
  by_cases h : a.size = b.size
  · refine ev_yes (by omega) ?_
    have := same_l0 a b hs h a.size 0 (by omega)
    simpa using this
  · refine ev_no (by omega) ?_
    refine ev_done ?_
    symm
    rw [beq_eq_false_iff_ne]
    intro e
    have := congrArg List.length e
    rw [List.length_map, List.length_map, bl_length, bl_length] at this
    exact h this
theorem sameB_refl (a : ByteArray) : sameB a a = true := by simp [sameB]

theorem rd35 (l : List S35) (i : Nat) (h : i < l.length) : rd_T35 l (i : Int) = l[i] := by simp [rd_T35, List.getD, h]
theorem drop35 (l : List S35) (i : Nat) (h : i < l.length) : l.drop i = rd_T35 l (i : Int) :: l.drop (i + 1) := by
  rw [rd35 l i h]
  exact List.drop_eq_getElem_cons h

/-- All names have at most 2^40 bytes. -/
def Small35 (l : List S35) : Prop := l.length ≤ 1099511627776 ∧ ∀ f ∈ l, f.f0.size ≤ 1099511627776
theorem Small35.at {l : List S35} (h : Small35 l) {i : Nat} (hi : i < l.length) : (rd_T35 l (i : Int)).f0.size ≤ 1099511627776 := by
  rw [rd35 l i hi]
  exact h.2 _ (List.getElem_mem hi)

def getS (l : List S35) (nm : ByteArray) : ByteArray × Bool :=
  match l with
  | [] => ((⟨#[]⟩ : ByteArray), false)
  | f :: fs => if sameB f.f0 nm then (f.f1, true) else getS fs nm
def allS (l : List S35) (nm : ByteArray) : List ByteArray := (l.filter fun f => sameB f.f0 nm).map (·.f1)
def dropS (l : List S35) (nm : ByteArray) : List S35 := l.filter fun f => !sameB f.f0 nm
def setL (nm v : ByteArray) : Bool → List S35 → List S35
  | found, [] => if found then [] else [⟨nm, v⟩]
  | found, f :: fs => if sameB f.f0 nm then (if found then setL nm v found fs else ⟨nm, v⟩ :: setL nm v true fs) else f :: setL nm v found fs
def setS (l : List S35) (nm v : ByteArray) : List S35 := setL nm v false l

theorem get_l0 (l : List S35) (nm : ByteArray) (hs : Small35 l) : ∀ (n i : Nat), i + n = l.length →
    Ev (fun k => header_Get.l0 k nm l (l.length : Int) (i : Int)) (getS (l.drop i) nm)
  | 0, i, hi => by
    refine Ev.step (fun k => by simp only [header_Get.l0]; rfl) ?_
    refine ev_no (by omega) ?_
    exact ev_done (by rw [List.drop_of_length_le (by omega)]; rfl)
  | n + 1, i, hi => by
    have hl := hs.1
    refine Ev.step (fun k => by simp only [header_Get.l0]; rfl) ?_
    refine ev_yes (by omega) ?_
    refine ev_yes (by omega) ?_
    refine ev_yes (by omega) ?_
    refine Ev.bind (same_ev _ nm (hs.at (i := i) (by omega))) ?_
    rw [drop35 l i (by omega), getS]
    by_cases h : sameB (rd_T35 l (i : Int)).f0 nm = true
    · rw [if_pos h]
      exact ev_yes h (Ev.now _)
    · rw [if_neg h]
      refine ev_no h ?_
      rw [wrap_up i (by omega)]
      exact get_l0 l nm hs n (i + 1) (by omega)
theorem get_ev (l : List S35) (nm : ByteArray) (hs : Small35 l) : Ev (fun k => header_Get.f k l nm) (getS l nm) := by
  unfold header_Get.f
  have := get_l0 l nm hs l.length 0 (by omega)
  simpa using this

theorem all_l0 (l : List S35) (nm : ByteArray) (hs : Small35 l) : ∀ (n i : Nat) (acc : List ByteArray), i + n = l.length → acc.length ≤ i →
    Ev (fun k => header_All.l0 k nm acc l (l.length : Int) (i : Int)) (acc ++ allS (l.drop i) nm)
  | 0, i, acc, hi, ha => by
    refine Ev.step (fun k => by simp only [header_All.l0]; rfl) ?_
    refine ev_no (by omega) ?_
    exact ev_done (by rw [List.drop_of_length_le (by omega)]; simp [allS])
  | n + 1, i, acc, hi, ha => by
    have hl := hs.1
    refine Ev.step (fun k => by simp only [header_All.l0]; rfl) ?_
    refine ev_yes (by omega) ?_
    refine ev_yes (by omega) ?_
    refine ev_yes (by omega) ?_
    refine Ev.bind (same_ev _ nm (hs.at (i := i) (by omega))) ?_
    rw [drop35 l i (by omega)]
    by_cases h : sameB (rd_T35 l (i : Int)).f0 nm = true
    · refine ev_yes h ?_
      refine ev_yes (by omega) ?_
      have e : acc ++ allS (rd_T35 l (i : Int) :: l.drop (i + 1)) nm = (acc ++ [(rd_T35 l (i : Int)).f1]) ++ allS (l.drop (i + 1)) nm := by
        unfold allS
        rw [List.filter_cons_of_pos (p := fun f : S35 => sameB f.f0 nm) h]
        simp
      rw [e, wrap_up i (by omega)]
      exact all_l0 l nm hs n (i + 1) _ (by omega) (by simp; omega)
    · refine ev_no h ?_
      have e : allS (rd_T35 l (i : Int) :: l.drop (i + 1)) nm = allS (l.drop (i + 1)) nm := by
        unfold allS
        rw [List.filter_cons_of_neg (p := fun f : S35 => sameB f.f0 nm) h]
      rw [e, wrap_up i (by omega)]
      exact all_l0 l nm hs n (i + 1) _ (by omega) (by omega)
theorem all_ev (l : List S35) (nm : ByteArray) (hs : Small35 l) : Ev (fun k => header_All.f k l nm) (allS l nm) := by
  unfold header_All.f
  have := all_l0 l nm hs l.length 0 [] (by omega) (by simp)
  simpa using this

theorem drop_l0 (l : List S35) (nm : ByteArray) (hs : Small35 l) : ∀ (n i : Nat) (acc : List S35), i + n = l.length → acc.length ≤ i →
    Ev (fun k => header_Drop.l0 k nm acc l (l.length : Int) (i : Int)) (acc ++ dropS (l.drop i) nm)
  | 0, i, acc, hi, ha => by
    refine Ev.step (fun k => by simp only [header_Drop.l0]; rfl) ?_
    refine ev_no (by omega) ?_
    exact ev_done (by rw [List.drop_of_length_le (by omega)]; simp [dropS])
  | n + 1, i, acc, hi, ha => by
    have hl := hs.1
    refine Ev.step (fun k => by simp only [header_Drop.l0]; rfl) ?_
    refine ev_yes (by omega) ?_
    refine ev_yes (by omega) ?_
    refine ev_yes (by omega) ?_
    refine Ev.bind (same_ev _ nm (hs.at (i := i) (by omega))) ?_
    rw [drop35 l i (by omega)]
    by_cases h : sameB (rd_T35 l (i : Int)).f0 nm = true
    · refine ev_yes h ?_
      have e : dropS (rd_T35 l (i : Int) :: l.drop (i + 1)) nm = dropS (l.drop (i + 1)) nm := by
        unfold dropS
        rw [List.filter_cons_of_neg (by simp [h])]
      rw [e, wrap_up i (by omega)]
      exact drop_l0 l nm hs n (i + 1) _ (by omega) (by omega)
    · refine ev_no h ?_
      refine ev_yes (by omega) ?_
      have e : acc ++ dropS (rd_T35 l (i : Int) :: l.drop (i + 1)) nm = (acc ++ [(⟨(rd_T35 l (i : Int)).f0, (rd_T35 l (i : Int)).f1⟩ : S35)]) ++ dropS (l.drop (i + 1)) nm := by
        unfold dropS
        rw [List.filter_cons_of_pos (by simp [h])]
        simp
      rw [e, wrap_up i (by omega)]
      exact drop_l0 l nm hs n (i + 1) _ (by omega) (by simp; omega)
theorem drop_ev (l : List S35) (nm : ByteArray) (hs : Small35 l) : Ev (fun k => header_Drop.f k l nm) (dropS l nm) := by
  unfold header_Drop.f
  have := drop_l0 l nm hs l.length 0 [] (by omega) (by simp)
  simpa using this

theorem set_l0 (l : List S35) (nm v : ByteArray) (hs : Small35 l) : ∀ (n i : Nat) (acc : List S35) (found : Bool), i + n = l.length → acc.length ≤ i →
    Ev (fun k => header_Set.l0 k nm v acc found l (l.length : Int) (i : Int)) (acc ++ setL nm v found (l.drop i))
  | 0, i, acc, found, hi, ha => by
    have hl := hs.1
    refine Ev.step (fun k => by simp only [header_Set.l0]; rfl) ?_
    refine ev_no (by omega) ?_
    rw [List.drop_of_length_le (by omega), setL]
    cases found with
    | true => exact ev_yes rfl (ev_done (by simp))
    | false =>
      refine ev_no (by decide) (ev_yes (by omega) (ev_done ?_))
      simp
  | n + 1, i, acc, found, hi, ha => by
    have hl := hs.1
    refine Ev.step (fun k => by simp only [header_Set.l0]; rfl) ?_
    refine ev_yes (by omega) ?_
    refine ev_yes (by omega) ?_
    refine ev_yes (by omega) ?_
    refine Ev.bind (same_ev _ nm (hs.at (i := i) (by omega))) ?_
    rw [drop35 l i (by omega), setL]
    by_cases h : sameB (rd_T35 l (i : Int)).f0 nm = true
    · refine ev_yes h ?_
      rw [if_pos h]
      cases found with
      | true =>
        refine ev_yes rfl ?_
        rw [if_pos rfl, wrap_up i (by omega)]
        exact set_l0 l nm v hs n (i + 1) _ _ (by omega) (by omega)
      | false =>
        refine ev_no (by decide) ?_
        refine ev_yes (by omega) ?_
        have e : acc ++ (if false = true then setL nm v false (l.drop (i + 1)) else ⟨nm, v⟩ :: setL nm v true (l.drop (i + 1))) = (acc ++ [(⟨nm, v⟩ : S35)]) ++ setL nm v true (l.drop (i + 1)) := by simp
        rw [e, wrap_up i (by omega)]
        exact set_l0 l nm v hs n (i + 1) _ _ (by omega) (by simp; omega)
    · refine ev_no h ?_
      refine ev_yes (by omega) ?_
      rw [if_neg h]
      have e : acc ++ rd_T35 l (i : Int) :: setL nm v found (l.drop (i + 1)) = (acc ++ [(⟨(rd_T35 l (i : Int)).f0, (rd_T35 l (i : Int)).f1⟩ : S35)]) ++ setL nm v found (l.drop (i + 1)) := by simp
      rw [e, wrap_up i (by omega)]
      exact set_l0 l nm v hs n (i + 1) _ _ (by omega) (by simp; omega)
theorem set_ev (l : List S35) (nm v : ByteArray) (hs : Small35 l) : Ev (fun k => header_Set.f k l nm v) (setS l nm v) := by
  unfold header_Set.f setS
  have := set_l0 l nm v hs l.length 0 [] false (by omega) (by simp)
  simpa using this

/-- Two lists of fields are equal. -/
def eqF : List S35 → List S35 → Bool
  | [], [] => true
  | a :: aa, b :: bb => (bl a.f0 == bl b.f0 && bl a.f1 == bl b.f1) && eqF aa bb
  | _, _ => false
theorem eqF_refl : ∀ l, eqF l l = true
  | [] => rfl
  | a :: aa => by simp [eqF, eqF_refl aa]
theorem eqF_length : ∀ {a b : List S35}, a.length ≠ b.length → eqF a b = false
  | [], [], h => absurd rfl h
  | [], _ :: _, _ => rfl
  | _ :: _, [], _ => rfl
  | a :: aa, b :: bb, h => by
    unfold eqF
    rw [eqF_length (a := aa) (b := bb) (fun e => h (by simp [e]))]
    simp
theorem eqf_l0 (a b : List S35) (hs : a.length ≤ 1099511627776) (hab : a.length = b.length) : ∀ (n i : Nat), i + n = a.length →
    Ev (fun k => missiveref09_Same.l0 k a b (i : Int)) (eqF (a.drop i) (b.drop i))
  | 0, i, hi => by
    refine Ev.step (fun k => by simp only [missiveref09_Same.l0]; rfl) ?_
    refine ev_no (by omega) ?_
    exact ev_done (by rw [List.drop_of_length_le (by omega), List.drop_of_length_le (by omega)]; rfl)
  | n + 1, i, hi => by
    refine Ev.step (fun k => by simp only [missiveref09_Same.l0]; rfl) ?_
    refine ev_yes (by omega) ?_
    refine ev_yes (by omega) ?_
    refine ev_yes (by omega) ?_
    rw [drop35 a i (by omega), drop35 b i (by omega), eqF]
    simp only [toList_bl]
    by_cases h : (bl (rd_T35 a (i : Int)).f0 == bl (rd_T35 b (i : Int)).f0 && bl (rd_T35 a (i : Int)).f1 == bl (rd_T35 b (i : Int)).f1) = true
    · refine ev_no ?_ ?_
      · rw [Bool.and_eq_true] at h
        rw [h.1, h.2]
        decide
      · rw [h, Bool.true_and, wrap_up i (by omega)]
        exact eqf_l0 a b hs hab n (i + 1) (by omega)
    · have h' : (bl (rd_T35 a (i : Int)).f0 == bl (rd_T35 b (i : Int)).f0 && bl (rd_T35 a (i : Int)).f1 == bl (rd_T35 b (i : Int)).f1) = false := by simpa only [Bool.not_eq_true] using h
      rw [h', Bool.false_and]
      refine ev_yes ?_ (Ev.now _)
      rw [← Bool.not_and, h']
      rfl
theorem eqf_ev (a b : List S35) (hs : a.length ≤ 1099511627776) : Ev (fun k => missiveref09_Same.f k a b) (eqF a b) := by
  unfold missiveref09_Same.f
  by_cases h : a.length = b.length
  · refine ev_yes (by omega) ?_
    have := eqf_l0 a b hs h a.length 0 (by omega)
    simpa using this
  · refine ev_no (by omega) ?_
    exact ev_done (eqF_length h).symm

/-- The bytes of fields. -/
def bytesF (l : List S35) : Nat := (l.map fun f => f.f0.size + f.f1.size).sum
/-- Are there few fields? -/
def fewS (l : List S35) : Bool := l.all (fun f => f.f0.size ≤ 6000 && f.f1.size ≤ 6000) && (l.length ≤ 420 && bytesF l ≤ 6000)
theorem few_l0 (l : List S35) (hs : l.length ≤ 4398046511104) : ∀ (n i : Nat) (acc : Nat), i + n = l.length → acc ≤ 12000 * i →
    Ev (fun k => missivelaw09_few.l0 k l (acc : Int) (i : Int)) ((l.drop i).all (fun f => f.f0.size ≤ 6000 && f.f1.size ≤ 6000) && (l.length ≤ 420 && acc + bytesF (l.drop i) ≤ 6000))
  | 0, i, acc, hi, ha => by
    refine Ev.step (fun k => by simp only [missivelaw09_few.l0]; rfl) ?_
    refine ev_no (by omega) ?_
    rw [List.drop_of_length_le (by omega)]
    by_cases h : l.length ≤ 420
    · refine ev_yes (by omega) (ev_done ?_)
      simp [h, bytesF]
      omega
    · refine ev_no (by omega) (ev_done ?_)
      simp [h]
  | n + 1, i, acc, hi, ha => by
    refine Ev.step (fun k => by simp only [missivelaw09_few.l0]; rfl) ?_
    refine ev_yes (by omega) ?_
    refine ev_yes (by omega) ?_
    rw [drop35 l i (by omega), List.all_cons]
    by_cases h0 : (rd_T35 l (i : Int)).f0.size ≤ 6000
    · refine ev_no (by omega) ?_
      by_cases h1 : (rd_T35 l (i : Int)).f1.size ≤ 6000
      · refine ev_no (by omega) ?_
        have e1 : wrap64 (wrap64 ((acc : Int) + ((rd_T35 l (i : Int)).f0.size : Int)) + ((rd_T35 l (i : Int)).f1.size : Int)) = ((acc + (rd_T35 l (i : Int)).f0.size + (rd_T35 l (i : Int)).f1.size : Nat) : Int) := by
          rw [show wrap64 ((acc : Int) + ((rd_T35 l (i : Int)).f0.size : Int)) = ((acc + (rd_T35 l (i : Int)).f0.size : Nat) : Int) by
            rw [← i64_w, Int.natCast_add]; exact IntWalk.i64_in _ (by omega)]
          rw [← i64_w, Int.natCast_add]
          exact IntWalk.i64_in _ (by omega)
        rw [e1, wrap_up i (by omega)]
        have e2 : bytesF (rd_T35 l (i : Int) :: l.drop (i + 1)) = ((rd_T35 l (i : Int)).f0.size + (rd_T35 l (i : Int)).f1.size) + bytesF (l.drop (i + 1)) := by simp [bytesF]
        rw [e2, show acc + ((rd_T35 l (i : Int)).f0.size + (rd_T35 l (i : Int)).f1.size + bytesF (l.drop (i + 1))) = (acc + (rd_T35 l (i : Int)).f0.size + (rd_T35 l (i : Int)).f1.size) + bytesF (l.drop (i + 1)) by omega]
        have e3 : (decide ((rd_T35 l (i : Int)).f0.size ≤ 6000) && decide ((rd_T35 l (i : Int)).f1.size ≤ 6000)) = true := by simp [h0, h1]
        rw [e3, Bool.true_and]
        exact few_l0 l hs n (i + 1) _ (by omega) (by omega)
      · refine ev_yes (by omega) (ev_done ?_)
        simp [h1]
    · refine ev_yes (by omega) (ev_done ?_)
      simp [h0]
theorem few_ev (l : List S35) (hs : l.length ≤ 4398046511104) : Ev (fun k => missivelaw09_few.f k l) (fewS l) := by
  unfold missivelaw09_few.f fewS
  have := few_l0 l hs l.length 0 0 (by omega) (by omega)
  simpa using this
theorem fewS_small {l : List S35} (h : fewS l = true) : Small35 l ∧ l.length ≤ 420 ∧ bytesF l ≤ 6000 ∧ ∀ f ∈ l, f.f0.size ≤ 6000 ∧ f.f1.size ≤ 6000 := by
  unfold fewS at h
  simp only [Bool.and_eq_true, List.all_eq_true, decide_eq_true_eq] at h
  exact ⟨⟨by omega, fun f hf => by have := (h.1 f hf).1; omega⟩, h.2.1, h.2.2, h.1⟩
end Go.Proofs.YtieompfmhnpnaaaGreat.H
