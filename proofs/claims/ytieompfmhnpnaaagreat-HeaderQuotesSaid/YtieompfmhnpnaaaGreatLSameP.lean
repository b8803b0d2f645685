/- Plain laws: a list of parameters is the same as itself. -/
import Derived.Test.YtieompfmhnpnaaaGreatBa
import Derived.Test.YtieompfmhnpnaaaGreatXPlain
namespace Go.Proofs.YtieompfmhnpnaaaGreat.H
open Go.RowKit Go.Proofs.YtieompfmhnpnaaaGreatW.PrintWords Go.Proofs.YtieompfmhnpnaaaGreatW.PrintLast Go.Proofs.YtieompfmhnpnaaaGreatW.PrintMore
set_option linter.unusedVariables false
set_option linter.unusedSimpArgs false

theorem samep_l0 (a : List S25) (hs : a.length ≤ 1099511627776) : ∀ (n i : Nat), i + n = a.length →
    Ev (fun k => missiveref09_SameParams.l0 k a a (i : Int)) true
  | 0, i, hi => by
    refine Ev.step (fun k => by simp only [missiveref09_SameParams.l0]; rfl) ?_
    refine ev_no (by omega) ?_
    exact Ev.now _
  | n + 1, i, hi => by
    refine Ev.step (fun k => by simp only [missiveref09_SameParams.l0]; rfl) ?_
    refine ev_yes (by omega) ?_
    refine ev_yes (by omega) ?_
    refine ev_yes (by omega) ?_
    refine ev_no (by simp) ?_
    rw [wrap_up i (by omega)]
    exact samep_l0 a hs n (i + 1) (by omega)
theorem samep_ev (a : List S25) (hs : a.length ≤ 1099511627776) : Ev (fun k => missiveref09_SameParams.f k a a) true := by
  unfold missiveref09_SameParams.f
  refine ev_yes (by omega) ?_
  have := samep_l0 a hs a.length 0 (by omega)
  simpa using this
end Go.Proofs.YtieompfmhnpnaaaGreat.H
