/- Plain words: tokens. -/
import Derived.Test.YtieompfmhnpnaaaGreatB0
import Derived.Test.YtieompfmhnpnaaaGreatBb
import Derived.Test.YtieompfmhnpnaaaGreatB35
import Derived.Test.YtieompfmhnpnaaaGreatXPlain
-- needs: header_isToken header_visible
namespace Go.Proofs.YtieompfmhnpnaaaGreat.H
open Go.RowKit Go.Proofs.YtieompfmhnpnaaaGreatW.PrintWords Go.Proofs.YtieompfmhnpnaaaGreatW.PrintLast Go.Proofs.YtieompfmhnpnaaaGreatW.PrintMore
set_option linter.unusedVariables false
set_option linter.unusedSimpArgs false

def specB : List UInt8 := [40, 41, 60, 62, 64, 44, 59, 58, 92, 34, 47, 91, 93, 63, 61]
def tokB (c : UInt8) : Bool := visB c && !(specB.contains c)
/-- Is it a token? -/
def isTokenB (s : ByteArray) : Bool := (bl s).all tokB && !(bl s).isEmpty
theorem spec_at (c : UInt8) : (Lib.indexByte specB c ≥ 0) ↔ specB.contains c = true := by
  constructor
  · intro h
    obtain ⟨o, ho⟩ : ∃ o : Nat, Lib.indexByte specB c = o := ⟨(Lib.indexByte specB c).toNat, by omega⟩
    have := (Lib.indexByte_some ho).1
    rw [List.contains_iff_mem]
    exact List.mem_of_getElem? this
  · intro h
    rw [List.contains_iff_mem] at h
    have hge := Lib.indexByte_ge specB c
    rcases Int.lt_or_le (Lib.indexByte specB c) 0 with h0 | h0
    · have h1 : Lib.indexByte specB c = -1 := by omega
      obtain ⟨i, hi, rfl⟩ := List.getElem_of_mem h
      exact absurd (List.getElem?_eq_getElem hi) (Lib.indexByte_none h1 i)
    · exact h0
theorem isToken_l0 (s : ByteArray) (hs : s.size ≤ 1099511627776) : ∀ (n i : Nat), i + n = s.size →
    Ev (fun k => header_isToken.l0 k s (s.size : Int) (i : Int)) (((bl s).drop i).all tokB && !(bl s).isEmpty)
  | 0, i, hi => by
    have hl := bl_length s
    refine Ev.step (fun k => by simp only [header_isToken.l0]; rfl) ?_
    refine ev_no (by omega) ?_
    refine ev_done ?_
    rw [List.drop_of_length_le (by omega), toList_bl]
    cases bl s <;> rfl
  | n + 1, i, hi => by
    refine Ev.step (fun k => by simp only [header_isToken.l0]; rfl) ?_
    have hb := bt_byteAt s i (by omega)
    refine ev_yes (by omega) ?_
    refine ev_yes (by omega) ?_
    refine ev_yes (by omega) ?_
    simp only [hb, visible_at, Option.bind_some]
    rw [drop_byteAt s i (by omega), List.all_cons]
    by_cases hv : visB (byteAt s i) = true
    · have hx : strings_IndexByte.f (⟨#[40, 41, 60, 62, 64, 44, 59, 58, 92, 34, 47, 91, 93, 63, 61]⟩ : ByteArray) ((byteAt s i).toNat : Int) = some (Lib.indexByte specB (byteAt s i)) := by
        unfold strings_IndexByte.f
        simp [specB]
      simp only [hv, if_true, hx, Option.bind_some]
      by_cases hsp : specB.contains (byteAt s i) = true
      · have ht : tokB (byteAt s i) = false := by unfold tokB; rw [hsp]; simp
        rw [ht]
        refine ev_yes ((spec_at _).2 hsp) ?_
        simp only [Bool.false_and]
        exact Ev.now _
      · have ht : tokB (byteAt s i) = true := by
          unfold tokB
          rw [hv]
          simp only [Bool.true_and]
          simpa using hsp
        rw [ht]
        refine ev_no (fun h => hsp ((spec_at _).1 h)) ?_
        simp only [Bool.true_and]
        rw [wrap_up i (by omega)]
        exact isToken_l0 s hs n (i + 1) (by omega)
    · have hv' : visB (byteAt s i) = false := by simpa using hv
      have ht : tokB (byteAt s i) = false := by unfold tokB; rw [hv']; rfl
      simp only [hv', ht, Bool.false_and]
      exact Ev.now _
theorem isToken_ev (s : ByteArray) (hs : s.size ≤ 1099511627776) : Ev (fun k => header_isToken.f k s) (isTokenB s) := by
  unfold header_isToken.f isTokenB
  have := isToken_l0 s hs s.size 0 (by omega)
  simpa using this
end Go.Proofs.YtieompfmhnpnaaaGreat.H
