/- Contracts, several texts in one: XLines, XPieces. -/
import Derived.Test.YtieompfmhnpnaaaGreatB0
import Derived.Test.YtieompfmhnpnaaaGreatB13
import Derived.RangeFuncBox
import Derived.RangeFuncNested
import Derived.RangeFuncLeaves
import Derived.Shelf.Abstract
import Derived.WalkKit
import Derived.OwnWalkIn
import Derived.TacticsInMore
import Derived.LoopNIn
import Derived.LoopIn
import Derived.Test.YtieompfmhnpnaaaGreatXPa
namespace Go.Proofs.YtieompfmhnpnaaaGreat.H
open Go.RowKit Go.Proofs.YtieompfmhnpnaaaGreatW.PrintWords Go.Proofs.YtieompfmhnpnaaaGreatW.PrintLast Go.Proofs.YtieompfmhnpnaaaGreatW.PrintMore
set_option linter.unusedVariables false
set_option linter.unusedSimpArgs false
attribute [local go_sem] Oper.semAt_some
theorem wide_fn (f : Nat) : Fence.wide.fn f = True := rfl
theorem wide_depth : Fence.wide.depth = none := rfl
theorem wide_fn_r (f l : Nat) : (Fence.wide.inRound l).fn f = True := rfl
theorem wide_depth_r (l : Nat) : (Fence.wide.inRound l).depth = none := rfl
attribute [local go_sem] wide_fn wide_depth wide_fn_r wide_depth_r

/-- A line: its content, where it begins, where it ends. -/
structure LineX where
  con : ByteArray
  fr : Nat
  un : Nat

/-- Without one CR at the end. -/
def trimCR (c : ByteArray) : ByteArray := if 1 ≤ c.size ∧ (c.extract (c.size - 1) c.size).toList = [13] then c.extract 0 (c.size - 1) else c
def lineAt (s : ByteArray) (fr : Nat) : LineX :=
  let c := cutAt (s.extract fr s.size) 10
  ⟨trimCR c.1, fr, fr + c.1.size + (if c.2.2 then 1 else 0)⟩
def linesAt (s : ByteArray) : Nat → Nat → List LineX
  | 0, _ => []
  | k + 1, fr => if fr < s.size then lineAt s fr :: linesAt s k (lineAt s fr).un else []
def linesOf (s : ByteArray) : List LineX := linesAt s (s.size + 1) 0
def encLine (x : LineX) : Array Value := #[.agg #[.string x.con, .int .i64 (x.fr : Int), .int .i64 (x.un : Int)]]

theorem trimCR_f (c : ByteArray) (hs : c.size ≤ 1099511627776) : strings_TrimSuffix.f c ⟨#[13]⟩ = some (trimCR c) := by
  unfold strings_TrimSuffix.f stringslite_TrimSuffix.f stringslite_HasSuffix.f
  have e1 : (⟨#[13]⟩ : ByteArray).size = 1 := rfl
  have e2 : (⟨#[13]⟩ : ByteArray).toList = [13] := by rw [Lib.toList_data]
  rw [e1, e2]
  by_cases h : 1 ≤ c.size
  · have hw : wrap64 ((c.size : Int) - ((1 : Nat) : Int)) = ((c.size - 1 : Nat) : Int) := by
      rw [show ((c.size : Int) - ((1 : Nat) : Int)) = ((c.size - 1 : Nat) : Int) by omega]
      exact (i64_w _).symm.trans (IntWalk.i64_in _ (by omega))
    rw [hw]
    have q1 : (c.size : Int) ≥ ((1 : Nat) : Int) := by omega
    have q2 : (0 : Int) ≤ ((c.size - 1 : Nat) : Int) := by omega
    have q3 : ((c.size - 1 : Nat) : Int) ≤ (c.size : Int) := by omega
    simp only [if_pos q1, if_pos q2, if_pos q3, Int.toNat_natCast, Option.bind_some]
    by_cases h2 : (c.extract (c.size - 1) c.size).toList = [13]
    · have e : trimCR c = c.extract 0 (c.size - 1) := if_pos ⟨h, h2⟩
      rw [e, h2]
      rfl
    · have e : trimCR c = c := if_neg (fun h3 => h2 h3.2)
      have e3 : ((c.extract (c.size - 1) c.size).toList == [13]) = false := by simp [h2]
      rw [e, e3]
      rfl
  · have q1 : ¬ (c.size : Int) ≥ ((1 : Nat) : Int) := by omega
    have e : trimCR c = c := if_neg (fun h3 => h h3.1)
    rw [e, if_neg q1]
    rfl

theorem cutAt_size (s : ByteArray) (c : UInt8) : (cutAt s c).1.size + (if (cutAt s c).2.2 then 1 else 0) ≤ s.size ∧ (0 < s.size → 0 < (cutAt s c).1.size + (if (cutAt s c).2.2 then 1 else 0)) := by
  by_cases h : 0 ≤ Lib.indexByte s.data.toList c
  · have e : cutAt s c = (s.extract 0 (Lib.indexByte s.data.toList c).toNat, s.extract ((Lib.indexByte s.data.toList c).toNat + 1) s.size, true) := by
      unfold cutAt; simp [h]
    have hl : s.data.toList.length = s.size := rfl
    have := indexByte_lt s.data.toList c
    rw [e]
    simp
    omega
  · have e : cutAt s c = (s, ⟨#[]⟩, false) := by
      unfold cutAt; simp [h]
    rw [e]
    simp

theorem lineAt_un (s : ByteArray) (fr : Nat) (h : fr < s.size) : fr < (lineAt s fr).un ∧ (lineAt s fr).un ≤ s.size ∧ (lineAt s fr).fr = fr := by
  have hx : (s.extract fr s.size).size = s.size - fr := by simp
  obtain ⟨h1, h2⟩ := cutAt_size (s.extract fr s.size) 10
  refine ⟨?_, ?_, rfl⟩
  · have := h2 (by omega)
    unfold lineAt
    dsimp only
    omega
  · unfold lineAt
    dsimp only
    omega

set_option maxRecDepth 100000 in
set_option maxHeartbeats 2000000 in
theorem lines1_in (n : Nat) (l bs : Nat) (s : ByteArray) (hs : s.size ≤ 1099511627776) (J Jx : List LineX → World → Prop)
    (hY : ∀ pre x W, x ∈ linesOf s → J pre W → pre.length < (linesOf s).length → YieldAt Fence.wide (n - 1) Tryz.prog l (encLine x) W fun e W' =>
      (e = .returned (.bool true) ∧ J (pre ++ [x]) W' ∧ W'.heap[bs]? = W.heap[bs]?) ∨ (e = .returned (.bool false) ∧ Jx (pre ++ [x]) W'))
    (W : World) (hBs : W.heap[bs]? = some (.cells #[.string s] 9 (0, 0))) (h0 : J [] W) (hJd : ∀ pre W k, J pre W → J pre (W.drewN k)) :
    CallsIn Fence.wide n Tryz.prog 86 #[.func (.yield l) #[] #[], .pointer (some ⟨bs, 0, none⟩)] W fun e W' => (∃ v, e = .returned v) ∧
      ((∃ ys, ys = linesOf s ∧ J ys W') ∨ (∃ pre, pre <+: linesOf s ∧ Jx pre W')) := by
  refine callsIn_of_wp Tryz.func86 rfl trivial ?_ rfl
  simp only [Tryz.ntmps86, List.size_toArray, List.length_cons, List.length_nil, Nat.reduceAdd, Nat.reduceSub, Array.replicate_succ, Array.replicate_zero, List.push_toArray, List.append_toArray, List.nil_append, List.cons_append]
  gi_wp2
  gi_loopw [3] (fun i wr => ∃ (k fr : Nat) (pre : List LineX), i = .int .i64 fr ∧ fr ≤ s.size ∧ s.size + 1 ≤ fr + k ∧ linesOf s = pre ++ linesAt s k fr ∧ J pre wr ∧ wr.heap[bs]? = some (.cells #[.string s] 9 (0, 0)))
    (fun i _ => s.size - (intOf i).toNat)
  case atStart => exact ⟨s.size + 1, 0, [], rfl, by omega, by omega, rfl, h0, hBs⟩
  case round =>
    obtain ⟨k, fr, pre, rfl, hfr, hk, hls, hJs, hbs⟩ := hrel
    have hc : wr.cell? ⟨bs, 0, none⟩ = some (.string s) := by simp [World.cell?, hbs]
    by_cases hlt : fr < s.size
    · obtain ⟨k, rfl⟩ : ∃ m, k = m + 1 := ⟨k - 1, by omega⟩
      obtain ⟨hu1, hu2, hu3⟩ := lineAt_un s fr hlt
      have hls2 : linesAt s (k + 1) fr = lineAt s fr :: linesAt s k (lineAt s fr).un := by rw [linesAt, if_pos hlt]
      rw [hls2] at hls
      clear hls2
      have hlen : pre.length < (linesOf s).length := by rw [hls]; simp
      have LS := Aside0.mk hls
      clear hls
      obtain ⟨c, r, b, hcut⟩ : ∃ c r b, cutAt (s.extract fr s.size) 10 = (c, r, b) := ⟨_, _, _, rfl⟩
      have hline : lineAt s fr = ⟨trimCR c, fr, fr + c.size + (if b then 1 else 0)⟩ := by unfold lineAt; rw [hcut]
      rw [hline] at hu1 hu2
      have hx : (s.extract fr s.size).size = s.size - fr := by simp
      have hcf : strings_Cut.f (s.extract fr s.size) ⟨#[10]⟩ = some (c, r, b) := by
        unfold strings_Cut.f
        rw [if_pos ⟨by omega, rfl⟩]
        exact congrArg some hcut
      have hcs : c.size ≤ s.size := by dsimp only at hu2; omega
      have htr := trimCR_f c (by omega)
      have HCF := Aside0.mk hcf
      have HTR := Aside0.mk htr
      have HL := Aside0.mk hline
      clear hcf htr hcut hline
      have hq1 : (fr : Int) < (s.size : Int) := by omega
      have hq3 : (fr : Int) ≤ (s.size : Int) := by omega
      have hq4 : (0 : Int) ≤ (fr : Int) := by omega
      have hq2 : IntKind.i64.wrap ((fr : Int) + (c.size : Int)) = ((fr + c.size : Nat) : Int) := by rw [Int.natCast_add]; exact IntWalk.i64_in _ (by dsimp only at hu2; omega)
      cases b
      all_goals
        try simp only [Bool.false_eq_true, if_false, if_true, Nat.add_zero] at hu1 hu2 HL
        gi_wp2_with (gi_at_call 40; refine (callsIn_wide.2 (strings_Cut.calls _ _ _ _ _ _ HCF.out)).mono ?_; rintro e w' ⟨rfl, ⟨nd, rfl⟩⟩)
        refine (callsIn_wide.2 (strings_TrimSuffix.calls _ _ _ _ HTR.out)).mono ?_
        rintro e w' ⟨rfl, ⟨nd2, rfl⟩⟩
        obtain ⟨fn, tmps, assign, body, hy, hR⟩ := hY pre (lineAt s fr) (wr.drewN (nd + nd2)) (by rw [LS.out]; simp) (hJd _ _ _ hJs) hlen
        rw [HL.out] at hy
        simp only [encLine, Int.natCast_add, Int.natCast_one] at hy
        gi_wp2
        refine hR.mono ?_
        rintro e W3 (⟨rfl, hJ3, hk3⟩ | ⟨rfl, hJx3⟩)
        · gi_wp2
          go_roundw
          case rel =>
            refine ⟨k, (lineAt s fr).un, pre ++ [lineAt s fr], by rw [HL.out]; simp, by rw [HL.out]; exact hu2, by rw [HL.out]; dsimp only; omega, by rw [LS.out]; simp, hJ3, hk3.trans hbs⟩
          case measure => simp [intOf]; omega
        · gi_wp2
          refine bodyPost_ret (results_none rfl _ _ _) rfl ?_
          exact ⟨⟨_, rfl⟩, .inr ⟨_, ⟨linesAt s k (lineAt s fr).un, by rw [LS.out]; simp⟩, hJx3⟩⟩
    · obtain rfl : fr = s.size := by omega
      have e : linesAt s k s.size = [] := by cases k with | zero => rfl | succ k => rw [linesAt, if_neg (by omega)]
      rw [e, List.append_nil] at hls
      gi_wp2
      go_end0
      exact ⟨⟨_, rfl⟩, .inl ⟨_, rfl, hls ▸ hJs⟩⟩

/-- The line with a number. -/
def lineNo (s : ByteArray) (i : Nat) : LineX := (linesOf s).getD i ⟨⟨#[]⟩, 0, 0⟩
/-- The iterator's contract: of the lines' numbers. -/
theorem lines_stops (n bs : Nat) (s : ByteArray) (hs : s.size ≤ 1099511627776) (w : World) (hb : bs < w.heap.size) (hc : w.heap[bs]? = some (.cells #[.string s] 9 (0, 0))) :
    SeqStopsK Fence.wide n Tryz.prog 86 #[.pointer (some ⟨bs, 0, none⟩)] (fun i : Nat => encLine (lineNo s i)) (fun W W' => W'.heap[bs]? = W.heap[bs]?) (fun xs => xs.map (lineNo s) = linesOf s) (fun pre => pre.map (lineNo s) <+: linesOf s) (linesOf s).length w := fun l J Jx W hW hJ hJx hY h0 => by
  refine (lines1_in n l bs s hs (fun pre W => ∃ is : List Nat, is.map (lineNo s) = pre ∧ J is W) (fun pre W => ∃ is : List Nat, is.map (lineNo s) = pre ∧ Jx is W) ?_ W ((hW.block bs hb).trans hc) ⟨[], rfl, h0⟩ ?_).mono ?_
  · rintro pre x W1 hx ⟨is, rfl, hj⟩ hl
    obtain ⟨i, hi, rfl⟩ := List.getElem_of_mem hx
    have e : lineNo s i = (linesOf s)[i] := by unfold lineNo; rw [List.getD_eq_getElem?_getD, List.getElem?_eq_getElem hi]; rfl
    rw [List.length_map] at hl
    obtain ⟨fn, tmps, assign, body, hy, hR⟩ := hY is i W1 hj hl
    dsimp only at hy
    rw [e] at hy
    refine ⟨fn, tmps, assign, body, hy, hR.mono ?_⟩
    rintro e' W' (⟨rfl, h1, h2⟩ | ⟨rfl, h1⟩)
    · exact .inl ⟨rfl, ⟨is ++ [i], by simp [e], h1⟩, h2⟩
    · exact .inr ⟨rfl, is ++ [i], by simp [e], h1⟩
  · rintro pre W1 k ⟨is, rfl, h⟩
    exact ⟨is, rfl, hJ is W1 _ none h ⟨rfl, rfl, rfl, Nat.le_refl _, fun _ _ _ => rfl⟩ (fun r e => by cases e)⟩
  · rintro e W' ⟨hv, ⟨ys, rfl, is, hi, hj⟩ | ⟨pre, hp, is, rfl, hj⟩⟩
    · exact ⟨hv, .inl ⟨is, hi, hj⟩⟩
    · exact ⟨hv, .inr ⟨is, hp, hj⟩⟩

theorem linesAt_length (s : ByteArray) : ∀ k fr, (linesAt s k fr).length ≤ k
  | 0, fr => by simp [linesAt]
  | k + 1, fr => by
    rw [linesAt]
    split
    · have := linesAt_length s k (lineAt s fr).un
      simp; omega
    · simp
theorem linesAt_con (s : ByteArray) : ∀ k fr, ∀ x ∈ linesAt s k fr, x.con.size ≤ s.size
  | 0, fr => by simp [linesAt]
  | k + 1, fr => by
    rw [linesAt]
    split
    · intro x hx
      rcases List.mem_cons.1 hx with rfl | hx
      · have h1 := cutAt_size (s.extract fr s.size) 10
        have h2 : (s.extract fr s.size).size = s.size - fr := by simp
        show (trimCR (cutAt (s.extract fr s.size) 10).1).size ≤ s.size
        have h3 : ∀ c : ByteArray, (trimCR c).size ≤ c.size := fun c => by
          unfold trimCR
          split
          · simp
          · exact Nat.le_refl _
        have := h3 (cutAt (s.extract fr s.size) 10).1
        omega
      · exact linesAt_con s k _ x hx
    · intro x hx; cases hx
theorem lineNo_con (s : ByteArray) (i : Nat) : (lineNo s i).con.size ≤ s.size := by
  unfold lineNo
  rw [List.getD_eq_getElem?_getD]
  cases h : (linesOf s)[i]? with
  | none => exact Nat.zero_le _
  | some x => exact linesAt_con s _ _ x (List.mem_of_getElem? h)

theorem lines_in (n : Nat) (s : ByteArray) (w : World) :
    CallsIn Fence.wide n Tryz.prog 60 #[.string s] w fun e w' => e = .returned (.func (.func 86) #[] #[.pointer (some ⟨w.heap.size, 0, none⟩)]) ∧ w' = w.alloc (.cells #[.string s] 9) := by
  refine callsIn_of_wp Tryz.func60 rfl trivial ?_ rfl
  simp only [Tryz.ntmps60, List.size_toArray, List.length_cons, List.length_nil, Nat.reduceAdd, Nat.reduceSub, Array.replicate_succ, Array.replicate_zero, List.push_toArray, List.append_toArray, List.nil_append, List.cons_append]
  gi_wp2
  go_ret
  exact ⟨rfl, rfl⟩
end Go.Proofs.YtieompfmhnpnaaaGreat.H

namespace Go.Proofs.YtieompfmhnpnaaaGreat.H
open Go.RowKit Go.Proofs.YtieompfmhnpnaaaGreatW.PrintWords Go.Proofs.YtieompfmhnpnaaaGreatW.PrintLast Go.Proofs.YtieompfmhnpnaaaGreatW.PrintMore
set_option linter.unusedVariables false
set_option linter.unusedSimpArgs false
attribute [local go_sem] Oper.semAt_some
attribute [local go_sem] wide_fn wide_depth wide_fn_r wide_depth_r

/-- The pieces of a value from a place on. -/
def piecesAt (s : ByteArray) : Nat → Nat → Bool → Nat → List ByteArray
  | 0, fr, q, i => [s.extract fr s.size]
  | k + 1, fr, q, i =>
    if i < s.size then
      (if byteAt s i = 92 ∧ q = true then piecesAt s k fr q (i + 2)
       else if byteAt s i = 34 then piecesAt s k fr (!q) (i + 1)
       else if byteAt s i = 59 ∧ q = false then s.extract fr i :: piecesAt s k (i + 1) q (i + 1)
       else piecesAt s k fr q (i + 1))
    else [s.extract fr s.size]
def piecesOf (s : ByteArray) : List ByteArray := piecesAt s (s.size + 1) 0 false 0

theorem piecesAt_end (s : ByteArray) (k fr i : Nat) (q : Bool) (h : s.size ≤ i) : piecesAt s k fr q i = [s.extract fr s.size] := by
  cases k with
  | zero => rfl
  | succ k => rw [piecesAt, if_neg (by omega)]

set_option maxRecDepth 100000 in
set_option maxHeartbeats 2000000 in
theorem pieces1_in (n : Nat) (l bs : Nat) (s : ByteArray) (hs : s.size ≤ 1099511627776) (J Jx : List ByteArray → World → Prop)
    (hY : ∀ pre x W, x ∈ piecesOf s → J pre W → pre.length < (piecesOf s).length → YieldAt Fence.wide (n - 1) Tryz.prog l #[.string x] W fun e W' =>
      (e = .returned (.bool true) ∧ J (pre ++ [x]) W' ∧ W'.heap[bs]? = W.heap[bs]?) ∨ (e = .returned (.bool false) ∧ Jx (pre ++ [x]) W'))
    (W : World) (hBs : W.heap[bs]? = some (.cells #[.string s] 9 (0, 0))) (h0 : J [] W) :
    CallsIn Fence.wide n Tryz.prog 70 #[.func (.yield l) #[] #[], .pointer (some ⟨bs, 0, none⟩)] W fun e W' => (∃ v, e = .returned v) ∧
      ((∃ ys, ys = piecesOf s ∧ J ys W') ∨ (∃ pre, pre <+: piecesOf s ∧ Jx pre W')) := by
  refine callsIn_of_wp Tryz.func70 rfl trivial ?_ rfl
  simp only [Tryz.ntmps70, List.size_toArray, List.length_cons, List.length_nil, Nat.reduceAdd, Nat.reduceSub, Array.replicate_succ, Array.replicate_zero, List.push_toArray, List.append_toArray, List.nil_append, List.cons_append]
  gi_wp2
  gi_loopw [3, 4, 5] (fun a b i wr => ∃ (k fr ix : Nat) (q : Bool) (pre : List ByteArray), a = .int .i64 fr ∧ b = .bool q ∧ i = .int .i64 ix ∧ fr ≤ ix ∧ fr ≤ s.size ∧ ix ≤ s.size + 1 ∧ s.size + 1 ≤ ix + k ∧ piecesOf s = pre ++ piecesAt s k fr q ix ∧ J pre wr ∧ wr.heap[bs]? = some (.cells #[.string s] 9 (0, 0)))
    (fun _ _ i _ => s.size + 2 - (intOf i).toNat)
  case atStart => exact ⟨s.size + 1, 0, 0, false, [], rfl, rfl, rfl, by omega, by omega, by omega, by omega, rfl, h0, hBs⟩
  case round =>
    obtain ⟨k, fr, ix, q, pre, rfl, rfl, rfl, hfi, hfr, hix, hk, hls, hJs, hbs⟩ := hrel
    have hc : wr.cell? ⟨bs, 0, none⟩ = some (.string s) := by simp [World.cell?, hbs]
    by_cases hlt : ix < s.size
    · obtain ⟨k, rfl⟩ : ∃ m, k = m + 1 := ⟨k - 1, by omega⟩
      rw [piecesAt, if_pos hlt] at hls
      have hq1 : (ix : Int) < (s.size : Int) := by omega
      have hq0 : (0 : Int) ≤ (ix : Int) := by omega
      have b256 : (byteAt s ix).toNat < 256 := (byteAt s ix).toNat_lt
      by_cases c92 : byteAt s ix = 92
      · have k0 : ∀ hh, s[ix]'hh = 92 := fun hh => (byteAt_get s ix hh).trans c92
        cases q with
        | true =>
          rw [if_pos ⟨c92, rfl⟩] at hls
          have LS := Aside0.mk hls
          clear hls c92
          gi_wp2_with fail
          go_roundw
          case rel => exact ⟨k, fr, ix + 2, true, pre, rfl, rfl, by go_num, by omega, by omega, by omega, by omega, LS.out, hJs, hbs⟩
          case measure => simp [intOf]; omega
        | false =>
          rw [if_neg (fun h => by cases h.2), if_neg (by rw [c92]; decide), if_neg (fun h => by rw [c92] at h; exact absurd h.1 (by decide))] at hls
          have LS := Aside0.mk hls
          clear hls c92
          gi_wp2_with fail
          go_roundw
          case rel => exact ⟨k, fr, ix + 1, false, pre, rfl, rfl, by go_num, by omega, by omega, by omega, by omega, LS.out, hJs, hbs⟩
          case measure => simp [intOf]; omega
      · rw [if_neg (fun h => c92 h.1)] at hls
        have n92 : ((byteAt s ix).toNat : Int) ≠ 92 := fun e => c92 (by rw [← UInt8.toNat_inj]; show _ = 92; omega)
        have d92 : (((byteAt s ix).toNat : Int) == 92) = false := by simpa using n92
        by_cases c34 : byteAt s ix = 34
        · have k0 : ∀ hh, s[ix]'hh = 34 := fun hh => (byteAt_get s ix hh).trans c34
          rw [if_pos c34] at hls
          have LS := Aside0.mk hls
          clear hls c34 c92 n92 d92
          gi_wp2_with fail
          go_roundw
          case rel => exact ⟨k, fr, ix + 1, !q, pre, rfl, rfl, by go_num, by omega, by omega, by omega, by omega, LS.out, hJs, hbs⟩
          case measure => simp [intOf]; omega
        · rw [if_neg c34] at hls
          have n34 : ((byteAt s ix).toNat : Int) ≠ 34 := fun e => c34 (by rw [← UInt8.toNat_inj]; show _ = 34; omega)
          have d34 : (((byteAt s ix).toNat : Int) == 34) = false := by simpa using n34
          by_cases c59 : byteAt s ix = 59
          · have k0 : ∀ hh, s[ix]'hh = 59 := fun hh => (byteAt_get s ix hh).trans c59
            cases q with
            | true =>
              rw [if_neg (fun h => by cases h.2)] at hls
              have LS := Aside0.mk hls
              clear hls c59 c34 c92 n92 d92 n34 d34
              gi_wp2_with fail
              go_roundw
              case rel => exact ⟨k, fr, ix + 1, true, pre, rfl, rfl, by go_num, by omega, by omega, by omega, by omega, LS.out, hJs, hbs⟩
              case measure => simp [intOf]; omega
            | false =>
              rw [if_pos ⟨c59, rfl⟩] at hls
              have LS := Aside0.mk hls
              have hmem : s.extract fr ix ∈ piecesOf s := by rw [hls]; simp
              have hlen : pre.length < (piecesOf s).length := by rw [hls]; simp
              obtain ⟨fn, tmps, assign, body, hy, hR⟩ := hY pre (s.extract fr ix) wr hmem hJs hlen
              have hsl1 : (fr : Int) ≤ (ix : Int) := by omega
              have hsl2 : (ix : Int) ≤ (s.size : Int) := by omega
              have hsl3 : (0 : Int) ≤ (fr : Int) := by omega
              clear hls c59 c34 c92 n92 d92 n34 d34 hmem hlen
              gi_wp2_with fail
              refine hR.mono ?_
              rintro e W3 (⟨rfl, hJ3, hk3⟩ | ⟨rfl, hJx3⟩)
              · gi_wp2_with fail
                go_roundw
                case rel => exact ⟨k, ix + 1, ix + 1, false, pre ++ [s.extract fr ix], by go_num, rfl, by go_num, by omega, by omega, by omega, by omega, by rw [LS.out]; simp, hJ3, hk3.trans hbs⟩
                case measure => simp [intOf]; omega
              · gi_wp2_with fail
                refine bodyPost_ret (results_none rfl _ _ _) rfl ?_
                exact ⟨⟨_, rfl⟩, .inr ⟨_, ⟨piecesAt s k (ix + 1) false (ix + 1), by rw [LS.out]; simp⟩, hJx3⟩⟩
          · rw [if_neg (fun h => c59 h.1)] at hls
            have n59 : ((byteAt s ix).toNat : Int) ≠ 59 := fun e => c59 (by rw [← UInt8.toNat_inj]; show _ = 59; omega)
            have d59 : (((byteAt s ix).toNat : Int) == 59) = false := by simpa using n59
            have k0 : ∀ hh, s[ix]'hh = byteAt s ix := fun hh => byteAt_get s ix hh
            have LS := Aside0.mk hls
            clear hls c59 c34 c92
            gi_wp2_with fail
            go_roundw
            case rel => exact ⟨k, fr, ix + 1, q, pre, rfl, rfl, by go_num, by omega, by omega, by omega, by omega, LS.out, hJs, hbs⟩
            case measure => simp [intOf]; omega
    · rw [piecesAt_end s k fr ix q (by omega)] at hls
      have LS := Aside0.mk hls
      have hmem : s.extract fr s.size ∈ piecesOf s := by rw [hls]; simp
      have hlen : pre.length < (piecesOf s).length := by rw [hls]; simp
      obtain ⟨fn, tmps, assign, body, hy, hR⟩ := hY pre (s.extract fr s.size) wr hmem hJs hlen
      have hsl2 : (fr : Int) ≤ (s.size : Int) := by omega
      have hsl3 : (0 : Int) ≤ (fr : Int) := by omega
      have hq1 : ¬ (ix : Int) < (s.size : Int) := by omega
      clear hls hmem hlen
      gi_wp2_with fail
      refine hR.mono ?_
      rintro e W3 (⟨rfl, hJ3, hk3⟩ | ⟨rfl, hJx3⟩)
      · gi_wp2_with fail
        go_end0
        exact ⟨⟨_, rfl⟩, .inl ⟨_, rfl, by rw [LS.out]; exact hJ3⟩⟩
      · gi_wp2_with fail
        go_end0
        exact ⟨⟨_, rfl⟩, .inr ⟨_, ⟨[], by rw [LS.out]; simp⟩, hJx3⟩⟩
end Go.Proofs.YtieompfmhnpnaaaGreat.H
