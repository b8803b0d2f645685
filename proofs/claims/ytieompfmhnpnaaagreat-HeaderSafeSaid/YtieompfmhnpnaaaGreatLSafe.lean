/- Plain law of HeaderSafe: what it computes is true. -/
import Derived.Test.YtieompfmhnpnaaaGreatB29
import Derived.Test.YtieompfmhnpnaaaGreatLSame
import Derived.Test.YtieompfmhnpnaaaGreatLWrite
import Derived.Test.YtieompfmhnpnaaaGreatLNamed
namespace Go.Proofs.YtieompfmhnpnaaaGreat.H
open Go.RowKit Go.Proofs.YtieompfmhnpnaaaGreatW.PrintWords Go.Proofs.YtieompfmhnpnaaaGreatW.PrintLast Go.Proofs.YtieompfmhnpnaaaGreatW.PrintMore
set_option linter.unusedVariables false
set_option linter.unusedSimpArgs false

theorem wsum_bytes (l : List S35) : wsum l = 4 * bytesF l + 16 * l.length := by
  induction l with
  | nil => rfl
  | cons x l ih =>
    rw [wsum_cons, ih]
    simp [bytesF]
    omega
/-- The names that are written. -/
def namesW (l : List S35) : List ByteArray := (l.filter fun f => isNameB f.f0).map (·.f0)
theorem parsed_names (l : List S35) : (parsedF (writtenF l)).map (·.f0) = namesW l := by
  unfold parsedF writtenF namesW
  rw [List.map_map, List.map_map]
  rfl
theorem safe_l0 (l : List S35) (ls : List S35) (hs : ∀ f ∈ l, f.f0.size ≤ 6000) (hl : l.length ≤ 1000000) (hls : ls.map (·.f0) = namesW l) : ∀ (n i at_ : Nat), i + n = l.length → at_ + (namesW (l.drop i)).length = ls.length → (ls.drop at_).map (·.f0) = namesW (l.drop i) →
    Ev (fun k => missivelaw09_HeaderSafe.l0 k l true ls (at_ : Int) (i : Int)) true
  | 0, i, at_, hi, ha, hd => by
    refine Ev.step (fun k => by simp only [missivelaw09_HeaderSafe.l0]; rfl) ?_
    refine ev_no (by omega) ?_
    refine ev_yes (by trivial) (ev_done ?_)
    rw [List.drop_of_length_le (by omega)] at ha
    have : at_ = ls.length := by simpa [namesW] using ha
    rw [this]
    simp
  | n + 1, i, at_, hi, ha, hd => by
    have hln : ls.length ≤ l.length := by
      have := congrArg List.length hls
      rw [List.length_map] at this
      rw [this]
      unfold namesW
      rw [List.length_map]
      exact List.length_filter_le _ _
    refine Ev.step (fun k => by simp only [missivelaw09_HeaderSafe.l0]; rfl) ?_
    refine ev_yes (by omega) ?_
    refine ev_yes (by omega) ?_
    have hsz : (rd_T35 l (i : Int)).f0.size ≤ 6000 := by
      rw [rd35 l i (by omega)]
      exact hs _ (List.getElem_mem _)
    refine Ev.bind (named_ev _ (by omega)) ?_
    rw [drop35 l i (by omega)] at ha hd
    by_cases h : isNameB (rd_T35 l (i : Int)).f0 = true
    · refine ev_yes h ?_
      have e : namesW (rd_T35 l (i : Int) :: l.drop (i + 1)) = (rd_T35 l (i : Int)).f0 :: namesW (l.drop (i + 1)) := by
        unfold namesW
        rw [List.filter_cons_of_pos (p := fun f : S35 => isNameB f.f0) h]
        rfl
      rw [e] at ha hd
      rw [List.length_cons] at ha
      have hlt : at_ < ls.length := by omega
      rw [drop35 ls at_ hlt, List.map_cons] at hd
      injection hd with hd1 hd2
      refine ev_no (by omega) ?_
      refine ev_yes (by omega) ?_
      refine ev_yes (by omega) ?_
      refine ev_yes (by rw [hd1]) ?_
      rw [wrap_up at_ (by omega), wrap_up i (by omega)]
      exact safe_l0 l ls hs hl hls n (i + 1) (at_ + 1) (by omega) (by omega) hd2
    · refine ev_no h ?_
      have e : namesW (rd_T35 l (i : Int) :: l.drop (i + 1)) = namesW (l.drop (i + 1)) := by
        unfold namesW
        rw [List.filter_cons_of_neg (p := fun f : S35 => isNameB f.f0) h]
      rw [e] at ha hd
      rw [wrap_up i (by omega)]
      exact safe_l0 l ls hs hl hls n (i + 1) at_ (by omega) ha hd
theorem safe_j0_done (l : List S35) (v : ByteArray) : Ev (fun k => missivelaw09_HeaderSafe.j0 k l v true true) true := by
  refine Ev.step (fun k => by simp only [missivelaw09_HeaderSafe.j0]; rfl) ?_
  exact ev_yes (by trivial) (Ev.now _)
theorem safe_j0 (l : List S35) (body : ByteArray) (hf : fewS l = true) (hl : l.length ≤ 400) (hb : body.size ≤ 1000) : Ev (fun k => missivelaw09_HeaderSafe.j0 k l body true false) true := by
  obtain ⟨hs, _, hbytes, hx⟩ := fewS_small hf
  have hw : wsum l ≤ 100000 := by rw [wsum_bytes]; omega
  have hlen := writeL_length l
  have hsz : (mkB (writeL l)).size = (writeL l).length := mkB_size _
  have w1 : header_Write.f l = some (mkB (writeL l)) := by unfold header_Write.f; rw [if_pos (by omega)]
  have w2 : header_Parse.f (mkB (writeL l)) = some (parsedF (writtenF l), ((writeL l).length : Int)) := by
    unfold header_Parse.f
    rw [if_pos (by omega), parse_write l hl]
  have e10 : (mkB (writeL l) ++ (⟨#[10]⟩ : ByteArray)) ++ body = mkB (writeL l ++ 10 :: bl body) := bl_inj (by
    rw [bl_append, bl_append, bl_mkB, bl_mkB]
    simp [bl])
  have w3 : header_Parse.f ((mkB (writeL l) ++ (⟨#[10]⟩ : ByteArray)) ++ body) = some (parsedF (writtenF l), (((writeL l).length + 1 : Nat) : Int)) := by
    rw [e10]
    unfold header_Parse.f
    rw [if_pos (by rw [mkB_size]; simp; omega), parse_write_rest l (bl body) hl]
  have s10 : (mkB (writeL l) ++ (⟨#[10]⟩ : ByteArray)).size = (writeL l).length + 1 := by rw [ByteArray.size_append, hsz]; rfl
  have hpl : (parsedF (writtenF l)).length ≤ 400 := by
    unfold parsedF
    rw [List.length_map]
    exact Nat.le_trans (writtenF_length l) hl
  refine Ev.step (fun k => by simp only [missivelaw09_HeaderSafe.j0]; rfl) ?_
  refine ev_no (by decide) ?_
  simp only [w1, w2, w3, Option.bind_some, hsz, s10]
  refine ev_yes (by omega) ?_
  refine ev_yes (by omega) ?_
  refine ev_yes (by trivial) ?_
  refine ev_yes (by rw [wrap_up _ (by omega)]) ?_
  refine Ev.bind (eqf_ev _ _ (by omega)) ?_
  rw [eqF_refl]
  refine Ev.step (fun k => by simp only [missivelaw09_HeaderSafe.j1]; rfl) ?_
  refine ev_no (by decide) ?_
  have hn := parsed_names l
  have hnl : (namesW l).length = (parsedF (writtenF l)).length := by rw [← hn, List.length_map]
  have := safe_l0 l (parsedF (writtenF l)) (fun f hf => (hx f hf).1) (by omega) hn l.length 0 0 (by omega) (by simpa using hnl) (by simpa using hn)
  simpa using this
theorem safe_ev (l : List S35) (body : ByteArray) (hlen : l.length ≤ 4398046511104) : Ev (fun k => missivelaw09_HeaderSafe.f k l body) true := by
  unfold missivelaw09_HeaderSafe.f
  refine Ev.bind small_ev ?_
  refine Ev.bind (few_ev l hlen) ?_
  by_cases hf : fewS l = true
  · refine ev_yes hf ?_
    by_cases h1 : l.length ≤ 400
    · refine ev_no (by omega) ?_
      by_cases h2 : body.size ≤ 1000
      · have e : decide ((body.size : Int) > 1000) = false := by simp; omega
        simp only [e]
        exact safe_j0 l body hf h1 h2
      · have e : decide ((body.size : Int) > 1000) = true := by simp; omega
        simp only [e]
        exact safe_j0_done l body
    · exact ev_yes (by omega) (safe_j0_done l body)
  · exact ev_no hf (safe_j0_done l body)
end Go.Proofs.YtieompfmhnpnaaaGreat.H
