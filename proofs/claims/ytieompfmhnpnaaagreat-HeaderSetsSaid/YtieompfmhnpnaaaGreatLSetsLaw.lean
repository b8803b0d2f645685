/- Plain law of HeaderSets: what it computes is true. -/
import Derived.Test.YtieompfmhnpnaaaGreatB34
import Derived.Test.YtieompfmhnpnaaaGreatLSets
namespace Go.Proofs.YtieompfmhnpnaaaGreat.H
open Go.RowKit Go.Proofs.YtieompfmhnpnaaaGreatW.PrintWords Go.Proofs.YtieompfmhnpnaaaGreatW.PrintLast Go.Proofs.YtieompfmhnpnaaaGreatW.PrintMore
set_option linter.unusedVariables false
set_option linter.unusedSimpArgs false

theorem sets_j0_done (l : List S35) (nm v : ByteArray) : Ev (fun k => missivelaw09_HeaderSets.j0 k l nm v true true) true := by
  refine Ev.step (fun k => by simp only [missivelaw09_HeaderSets.j0]; rfl) ?_
  exact ev_yes (by trivial) (Ev.now _)
theorem sets_j1 (l : List S35) (nm v : ByteArray) (hs : Small35 l) (hn : nm.size ≤ 1099511627776) (hl : l.length ≤ 420) (b13 : Bool) (hb : b13 = false) :
    Ev (fun k => missivelaw09_HeaderSets.j1 k l nm v true (setS l nm v) (dropS l nm) v true b13 (allS (setS l nm v) nm) (allS l nm) false) true := by
  subst hb
  have hss : Small35 (setS l nm v) := by
    have := setL_small (v := v) hn false hs.2
    exact ⟨by unfold setS; omega, this.2⟩
  refine Ev.step (fun k => by simp only [missivelaw09_HeaderSets.j1]; rfl) ?_
  refine ev_no (by decide) ?_
  refine ev_yes (by trivial) ?_
  refine ev_yes (by trivial) ?_
  refine ev_yes (by trivial) ?_
  refine ev_no (by decide) ?_
  refine ev_yes (by unfold setS; rw [all_set]; rfl) ?_
  refine Ev.bind (drop_ev _ nm hss) ?_
  have e1 : dropS (setS l nm v) nm = dropS l nm := drop_set nm v false l
  rw [e1]
  refine Ev.bind (eqf_ev _ _ (dropS_small hs).1) ?_
  rw [eqF_refl]
  refine ev_yes (by trivial) ?_
  refine Ev.bind (set_ev _ nm v hss) ?_
  have e2 : setS (setS l nm v) nm v = setS l nm v := set_set nm v l
  rw [e2]
  refine Ev.bind (eqf_ev _ _ hss.1) ?_
  rw [eqF_refl]
  refine ev_yes (by trivial) (ev_done ?_)
  have e3 := drop_all_length nm l
  have e4 : wrap64 (((dropS l nm).length : Int) + ((allS l nm).length : Int)) = (l.length : Int) := by
    rw [← i64_w, ← Int.natCast_add, e3]
    exact IntWalk.i64_in _ (by omega)
  rw [e4]
  simp
theorem sets_j0 (l : List S35) (nm v : ByteArray) (hs : Small35 l) (hn : nm.size ≤ 1099511627776) (hl : l.length ≤ 420) :
    Ev (fun k => missivelaw09_HeaderSets.j0 k l nm v true false) true := by
  have hss : Small35 (setS l nm v) := by
    have := setL_small (v := v) hn false hs.2
    exact ⟨by unfold setS; omega, this.2⟩
  refine Ev.step (fun k => by simp only [missivelaw09_HeaderSets.j0]; rfl) ?_
  refine ev_no (by decide) ?_
  refine Ev.bind (set_ev l nm v hs) ?_
  refine Ev.bind (drop_ev l nm hs) ?_
  refine Ev.bind (get_ev _ nm hss) ?_
  refine Ev.bind (get_ev _ nm (dropS_small hs)) ?_
  refine Ev.bind (all_ev _ nm hss) ?_
  refine Ev.bind (get_ev l nm hs) ?_
  refine Ev.bind (all_ev l nm hs) ?_
  have g1 : getS (setS l nm v) nm = (v, true) := get_set nm v l
  have g2 := get_drop nm l
  have g3 := get_all nm l
  simp only [g1]
  have key := sets_j1 l nm v hs hn hl _ g2
  cases hall : allS l nm with
  | nil =>
    rw [hall] at g3 key
    simp only [g3]
    refine ev_no (by decide) ?_
    refine ev_no (by decide) ?_
    have e : ((⟨#[]⟩ : ByteArray).toList != ([] : List UInt8)) = false := by rw [toList_bl]; rfl
    rw [e]
    exact key
  | cons x rest =>
    rw [hall] at g3 key
    simp only [g3]
    refine ev_no (by simp) ?_
    refine ev_yes (by trivial) ?_
    refine ev_yes (by simp) ?_
    refine ev_yes (by simp [rdOf]) ?_
    exact key
theorem sets_ev (l : List S35) (nm v : ByteArray) (hlen : l.length ≤ 4398046511104) : Ev (fun k => missivelaw09_HeaderSets.f k l nm v) true := by
  unfold missivelaw09_HeaderSets.f
  refine Ev.bind small_ev ?_
  refine Ev.bind (few_ev l hlen) ?_
  by_cases hf : fewS l = true
  · obtain ⟨hs, hl, hb, hx⟩ := fewS_small hf
    refine ev_yes hf ?_
    by_cases h1 : nm.size ≤ 1000
    · refine ev_no (by omega) ?_
      by_cases h2 : v.size ≤ 1000
      · have e : decide ((v.size : Int) > 1000) = false := by simp; omega
        simp only [e]
        exact sets_j0 l nm v hs (by omega) hl
      · have e : decide ((v.size : Int) > 1000) = true := by simp; omega
        simp only [e]
        exact sets_j0_done l nm v
    · exact ev_yes (by omega) (sets_j0_done l nm v)
  · exact ev_no hf (sets_j0_done l nm v)
end Go.Proofs.YtieompfmhnpnaaaGreat.H
