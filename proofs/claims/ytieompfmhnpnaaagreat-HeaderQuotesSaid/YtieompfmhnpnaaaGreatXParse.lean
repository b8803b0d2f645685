/- Contracts by hand: header.Parse. -/
import Derived.Test.YtieompfmhnpnaaaGreatB0
import Derived.Test.YtieompfmhnpnaaaGreatBb
import Derived.Test.YtieompfmhnpnaaaGreatXParseC
-- needs: header_isName header_blank
namespace Go.Proofs.YtieompfmhnpnaaaGreat.H
open Go.RowKit Go.Proofs.YtieompfmhnpnaaaGreatW.PrintWords Go.Proofs.YtieompfmhnpnaaaGreatW.PrintLast Go.Proofs.YtieompfmhnpnaaaGreatW.PrintMore
set_option linter.unusedVariables false
set_option linter.unusedSimpArgs false
attribute [local go_sem] Oper.semAt_some
attribute [local go_sem] wide_fn wide_depth wide_fn_r wide_depth_r

def header_Parse.f (a0 : ByteArray) : Option (List S35 × Int) := if a0.size ≤ 8388608 then some ((parseS a0).1, ((parseS a0).2 : Int)) else none

/-- What holds between two rounds. -/
def InvP (n0 b0 b1 b2 b3 b4 bs : Nat) (raw : ByteArray) (w : World) (pre : List Nat) (W : World) : Prop :=
  (∃ st vF vV, goP ⟨[], [], 0⟩ (pre.map (lineNo raw)) = some st ∧ PSt n0 b0 b1 b2 b3 b4 bs raw st vF vV W) ∧ Below n0 w W
/-- What holds where a round has left the loop. -/
def InvX (n0 b0 b1 b2 b3 b4 bs : Nat) (raw : ByteArray) (w : World) (c : Code) (pre : List Nat) (W : World) : Prop :=
  (c = .exit 0 ∧ ∃ pre0 x st vF vV, pre = pre0 ++ [x] ∧ goP ⟨[], [], 0⟩ (pre0.map (lineNo raw)) = some st ∧ (stepP st (lineNo raw x)).2 = false ∧ PSt n0 b0 b1 b2 b3 b4 bs raw (stepP st (lineNo raw x)).1 vF vV W) ∧ Below n0 w W

set_option maxRecDepth 100000 in
set_option maxHeartbeats 4000000 in
theorem header_Parse.calls (a0 : ByteArray) (r1 : List (S35)) (r2 : Int) (w : World) (h : header_Parse.f a0 = some (r1, r2)) :
    Calls Tryz.prog 22 #[.string a0] w fun e w' => ∃ v0_ : Value, e = .returned (.tuple #[v0_, .int .i64 r2]) ∧ Kd.R k35 35 w' w.heap.size (fun _ => True) v0_ r1 ∧ Below w.heap.size w w' := by
  unfold header_Parse.f at h
  split at h
  case isFalse => cases h
  case isTrue hsz =>
  injection h with h
  injection h with h1 h2
  subst h1 h2
  refine callsIn_wide.1 (callsIn_of_wp_marks (n := 10) Tryz.func22 rfl trivial ?_ rfl)
  simp only [Tryz.ntmps22, List.size_toArray, List.length_cons, List.length_nil, Nat.reduceAdd, Nat.reduceSub, Array.replicate_succ, Array.replicate_zero, List.push_toArray, List.append_toArray, List.nil_append, List.cons_append]
  gi_wp2_with (gi_at_call 60; refine (lines_in _ _ _).mono ?_; rintro e w' ⟨rfl, rfl⟩)
  obtain ⟨W0, hW0⟩ : ∃ W0, w0P w a0 = W0 := ⟨_, rfl⟩
  have hs0 := w0P_size w a0
  have hB0 := w0P_below w a0
  have hP0 := pst_start w a0
  rw [hW0] at hs0 hB0 hP0
  unfold w0P FIN ADD at hW0
  rw [hW0]
  clear hW0
  have hM : ∀ pre : List Nat, ∀ x ∈ pre.map (lineNo a0), x.con.size ≤ 8388608 := fun pre x hx => by
    obtain ⟨i, _, rfl⟩ := List.mem_map.1 hx
    exact Nat.le_trans (lineNo_con a0 i) hsz
  have hN : (linesOf a0).length ≤ 8388609 := Nat.le_trans (linesAt_length a0 _ _) (by omega)
  refine wpIn_rangeFunc_ownH rfl (by decide) (gf := 86) (lb := #[.pointer (some ⟨w.heap.size + 1 + 1 + 1 + 1 + 1, 0, none⟩)]) rfl trivial (enters_of Tryz.func86 (by kernel_rfl) rfl)
    (encs := fun i : Nat => encLine (lineNo a0 i)) (lines_stops 9 (w.heap.size + 1 + 1 + 1 + 1 + 1) a0 (by omega) W0 (by omega) hP0.cs) (Kp := fun W W' => W'.heap[w.heap.size + 1 + 1 + 1 + 1 + 1]? = W.heap[w.heap.size + 1 + 1 + 1 + 1 + 1]?) (fun {A B C} h k => Eq.trans k h) (fun W l o o' hl ho _ _ => World.putObj_heap_other (by omega)) (Below.refl _ _) (fun _ => rfl)
    (InvP w.heap.size w.heap.size (w.heap.size + 1) (w.heap.size + 1 + 1) (w.heap.size + 1 + 1 + 1) (w.heap.size + 1 + 1 + 1 + 1) (w.heap.size + 1 + 1 + 1 + 1 + 1) a0 w) (InvX w.heap.size w.heap.size (w.heap.size + 1) (w.heap.size + 1 + 1) (w.heap.size + 1 + 1 + 1) (w.heap.size + 1 + 1 + 1 + 1) (w.heap.size + 1 + 1 + 1 + 1 + 1) a0 w)
    ?ownI ?ownX ⟨⟨_, _, _, rfl, hP0⟩, hB0⟩
    (fun x a' W => ∃ Bx, W.heap[Bx]? = some (.cells #[.string (lineNo a0 x).con, .int .i64 ((lineNo a0 x).fr : Int), .int .i64 ((lineNo a0 x).un : Int)] 81 (0, 0)) ∧ a' = { tmps := #[Value.string a0, undef, Value.slice none 0 0, Value.int IntKind.i64 0, Value.pointer (some ⟨w.heap.size, 0, none⟩), Value.pointer (some ⟨w.heap.size + 1, 0, none⟩), Value.pointer (some ⟨w.heap.size + 1 + 1, 0, none⟩), Value.pointer (some ⟨w.heap.size + 1 + 1 + 1, 0, none⟩), Value.pointer (some ⟨w.heap.size + 1 + 1 + 1 + 1, 0, none⟩), Value.pointer (some ⟨Bx, 0, none⟩), undef, undef, undef, Value.func (Fn.func 57) #[] #[Value.pointer (some ⟨w.heap.size, 0, none⟩), Value.pointer (some ⟨w.heap.size + 1, 0, none⟩)], Value.func (Fn.func 59) #[] #[Value.pointer (some ⟨w.heap.size + 1, 0, none⟩)], Value.string a0, Value.func (Fn.func 86) #[] #[Value.pointer (some ⟨w.heap.size + 1 + 1 + 1 + 1 + 1, 0, none⟩)], Value.agg #[.string (lineNo a0 x).con, .int .i64 ((lineNo a0 x).fr : Int), .int .i64 ((lineNo a0 x).un : Int)], undef, undef, undef, undef, undef, undef, undef, undef, undef, undef, undef, undef, undef, undef, undef, undef, undef, undef, undef, undef, undef, undef, undef, undef, undef, undef, undef, undef, undef, undef, undef, undef, undef, undef, undef, undef, undef, undef, undef, undef, undef, undef, undef, undef, undef, undef, undef, undef, undef, undef, undef, undef, undef, undef, undef], defers := [] })
    ?ownA ?assign ?body ?done ?stop
  case ownI =>
    refine OwnFrom.and (fun pre X Y row hs hg hr => ?_) (ownFrom_below (Nat.le_refl _) (by omega))
    obtain ⟨st, vF, vV, h1, h2⟩ := hs
    exact ⟨st, vF, vV, h1, pst_own X Y row h2 hg (fun r e => (hr r e).2)⟩
  case ownX =>
    intro c
    refine OwnFrom.and (fun pre X Y row hs hg hr => ?_) (ownFrom_below (Nat.le_refl _) (by omega))
    obtain ⟨hc, pre0, x, st, vF, vV, e, h1, h2, h3⟩ := hs
    exact ⟨hc, pre0, x, st, vF, vV, e, h1, h2, pst_own X Y row h3 hg (fun r e => (hr r e).2)⟩
  case ownA =>
    rintro x a' _ X Y row ⟨Bx, h1, h2⟩ hg hr
    exact ⟨Bx, (grownBy_keeps_cells hg (fun r e => (hr r e).2) h1 rfl).trans h1, h2⟩
  case assign =>
    rintro l pre x W K ⟨⟨st, vF, vV, hgo, hP⟩, hB⟩ hK
    unfold encLine
    gi_wp2
    have hlt5 := (Array.getElem?_eq_some_iff.1 hP.cs).1
    exact hK _ _ ((KeepsOthers.alloc _ _).from _) (Lib.alloc_old W _ _ hlt5) ⟨⟨st, vF, vV, hgo, pst_own W _ none hP (World.grownBy_alloc W _ none) (fun r e => by cases e)⟩, hB.alloc hB.size _⟩ ⟨W.heap.size, World.alloc_heap_new _ _, rfl⟩
  case body =>
    rintro l pre x a' W hl ⟨r, hr⟩ ⟨⟨st, vF, vV, hgo, hP⟩, hB⟩ ⟨Bx, hX, rfl⟩ hlt
    obtain ⟨bV, bM, bF⟩ := goP_bd (hM pre) (k := 0) (st := ⟨[], [], 0⟩) ⟨Nat.le_refl _, (fun v hv => by cases hv), Nat.zero_le _⟩ hgo
    rw [List.length_map] at bV
    have hcon : (lineNo a0 x).con.size ≤ 8388608 := Nat.le_trans (lineNo_con a0 x) hsz
    have hsnoc := goP_snoc ⟨[], [], 0⟩ (pre.map (lineNo a0)) (lineNo a0 x)
    rw [hgo] at hsnoc
    have hmap : (pre ++ [x]).map (lineNo a0) = pre.map (lineNo a0) ++ [lineNo a0 x] := by simp
    have hn0 := hB.size
    have goes : ∀ W3 vF3 vV3 st3, Stp w.heap.size W W3 → stepP st (lineNo a0 x) = (st3, true) → PSt w.heap.size w.heap.size (w.heap.size + 1) (w.heap.size + 1 + 1) (w.heap.size + 1 + 1 + 1) (w.heap.size + 1 + 1 + 1 + 1) (w.heap.size + 1 + 1 + 1 + 1 + 1) a0 st3 vF3 vV3 W3 → ∀ act, ownPostG W0.heap.size (fun W W' => W'.heap[w.heap.size + 1 + 1 + 1 + 1 + 1]? = W.heap[w.heap.size + 1 + 1 + 1 + 1 + 1]?) (InvP w.heap.size w.heap.size (w.heap.size + 1) (w.heap.size + 1 + 1) (w.heap.size + 1 + 1 + 1) (w.heap.size + 1 + 1 + 1 + 1) (w.heap.size + 1 + 1 + 1 + 1 + 1) a0 w) (InvX w.heap.size w.heap.size (w.heap.size + 1) (w.heap.size + 1 + 1) (w.heap.size + 1 + 1 + 1) (w.heap.size + 1 + 1 + 1 + 1) (w.heap.size + 1 + 1 + 1 + 1 + 1) a0 w) (pre ++ [x]) W .normal act W3 := by
      intro W3 vF3 vV3 st3 h1 h2 h3 act
      refine ⟨h1.keeps _, h3.cs.trans hP.cs.symm, ⟨st3, vF3, vV3, ?_, h3⟩, hB.trans (h1.below hn0)⟩
      rw [hmap, hsnoc]
      show (if (stepP st (lineNo a0 x)).2 = true then some (stepP st (lineNo a0 x)).1 else none) = some st3
      rw [h2]
      rfl
    have stops : ∀ W3 vF3 vV3 st3, Stp w.heap.size W W3 → stepP st (lineNo a0 x) = (st3, false) → PSt w.heap.size w.heap.size (w.heap.size + 1) (w.heap.size + 1 + 1) (w.heap.size + 1 + 1 + 1) (w.heap.size + 1 + 1 + 1 + 1) (w.heap.size + 1 + 1 + 1 + 1 + 1) a0 st3 vF3 vV3 W3 → ∀ act, ownPostG W0.heap.size (fun W W' => W'.heap[w.heap.size + 1 + 1 + 1 + 1 + 1]? = W.heap[w.heap.size + 1 + 1 + 1 + 1 + 1]?) (InvP w.heap.size w.heap.size (w.heap.size + 1) (w.heap.size + 1 + 1) (w.heap.size + 1 + 1 + 1) (w.heap.size + 1 + 1 + 1 + 1) (w.heap.size + 1 + 1 + 1 + 1 + 1) a0 w) (InvX w.heap.size w.heap.size (w.heap.size + 1) (w.heap.size + 1 + 1) (w.heap.size + 1 + 1 + 1) (w.heap.size + 1 + 1 + 1 + 1) (w.heap.size + 1 + 1 + 1 + 1 + 1) a0 w) (pre ++ [x]) W (.exit 0) act W3 := by
      intro W3 vF3 vV3 st3 h1 h2 h3 act
      refine ⟨h1.keeps _, ⟨rfl, pre, x, st, vF3, vV3, rfl, hgo, by rw [h2], by rw [h2]; exact h3⟩, hB.trans (h1.below hn0)⟩
    obtain ⟨con, fr, un, hline⟩ : ∃ con fr un, lineNo a0 x = ⟨con, fr, un⟩ := ⟨_, _, _, rfl⟩
    rw [hline] at hX hcon goes stops
    simp only [hline]
    dsimp only at hX hcon
    clear hsnoc hmap hline hgo
    obtain ⟨AF, cF, rfl⟩ := own_slice hP.oF
    have cX0 : W.cell? ⟨Bx, 0, none⟩ = some (.string con) := by simp [World.cell?, hX]
    have cX2 : W.cell? ⟨Bx, 2, none⟩ = some (.int .i64 (un : Int)) := by simp [World.cell?, hX]
    have cP0 : W.cell? ⟨w.heap.size, 0, none⟩ = some (.slice AF st.fs.length cF) := by simp [World.cell?, hP.c0]
    have cP2 : W.cell? ⟨w.heap.size + 1 + 1, 0, none⟩ = some (.func (.func 57) #[] #[.pointer (some ⟨w.heap.size, 0, none⟩), .pointer (some ⟨w.heap.size + 1, 0, none⟩)]) := by simp [World.cell?, hP.c2, FIN]
    have cP3 : W.cell? ⟨w.heap.size + 1 + 1 + 1, 0, none⟩ = some (.func (.func 59) #[] #[.pointer (some ⟨w.heap.size + 1, 0, none⟩)]) := by simp [World.cell?, hP.c3, ADD]
    have fP4 : W.frozen? ⟨w.heap.size + 1 + 1 + 1 + 1, 0, none⟩ = false := by simp [World.frozen?, hP.c4]
    have cP4 : W.cell? ⟨w.heap.size + 1 + 1 + 1 + 1, 0, none⟩ = some (.int .i64 (st.en : Int)) := by simp [World.cell?, hP.c4]
    have HP := Aside0.mk hP
    have HX := Aside0.mk hX
    have GO := Aside0.mk goes
    have ST := Aside0.mk stops
    clear hP hX goes stops
    by_cases z : con.size = 0
    · have hve : con.toList.isEmpty = true := by rw [toList_bl, List.isEmpty_iff_length_eq_zero, bl_length]; exact z
      have E : stepP st ⟨con, fr, un⟩ = (⟨st.fs, st.vs, un⟩, false) := by unfold stepP; rw [if_pos z]
      have HE := Aside0.mk E
      clear E z
      gi_wp2
      obtain ⟨h1, h2⟩ := en_ps HP.out (by omega) un
      exact ST.out _ _ _ _ h2 HE.out h1 _
    · have hvf : con.toList.isEmpty = false := by
        rw [toList_bl]
        cases h : bl con with
        | nil => exfalso; apply z; rw [← bl_length, h]; rfl
        | cons _ _ => rfl
      have k0 : ∀ hh, con[0]'hh = byteAt con 0 := fun hh => byteAt_get con 0 hh
      have hp : 0 < con.size := by omega
      have hpI : (0 : Int) < (con.size : Int) := by omega
      have b256 : (byteAt con 0).toNat < 256 := (byteAt con 0).toNat_lt
      have HBL := Aside0.mk (blank_at (byteAt con 0))
      by_cases hq : blankB (byteAt con 0) = true ∧ 0 < st.fs.length
      · have E : stepP st ⟨con, fr, un⟩ = (⟨st.fs, addV st.vs con, un⟩, true) := by unfold stepP; rw [if_neg z, if_pos hq]
        obtain ⟨hq1, hq2⟩ := hq
        have HE := Aside0.mk E
        have HQ := Aside0.mk hq1
        have hq3 : (0 : Int) < (st.fs.length : Int) := by omega
        clear E hq1 z
        gi_wp2_with fail
        refine (CallsIn.inRound l (callsIn_wide.2 (header_blank.calls _ _ _ HBL.out))).mono ?_
        rintro e w1 ⟨rfl, ⟨nd, rfl⟩⟩
        rw [HQ.out]
        gi_wp2_with fail
        refine (CallsIn.inRound l (callsIn_wide.2 (add_ps (pst_drewN HP.out nd) (by omega) con (by omega) (by omega) hn0))).mono ?_
        rintro e W1 ⟨rfl, ⟨vV1, hP1⟩, hS1⟩
        have hS2 := (((Stp.refl w.heap.size W).drewN nd).trans hS1)
        have hX1 := hS2.lv HX.out
        have cX2' : W1.cell? ⟨Bx, 2, none⟩ = some (.int .i64 (un : Int)) := by simp [World.cell?, hX1]
        have fP4' : W1.frozen? ⟨w.heap.size + 1 + 1 + 1 + 1, 0, none⟩ = false := by simp [World.frozen?, hP1.c4]
        have cP4' : W1.cell? ⟨w.heap.size + 1 + 1 + 1 + 1, 0, none⟩ = some (.int .i64 (st.en : Int)) := by simp [World.cell?, hP1.c4]
        have HP1 := Aside0.mk hP1
        have HS2 := Aside0.mk hS2
        clear hP1 hS1 hS2 hX1
        gi_wp2_with fail
        obtain ⟨h1, h2⟩ := en_ps HP1.out (by omega) un
        exact GO.out _ _ _ _ (HS2.out.trans h2) HE.out h1 _
      · obtain ⟨nm, re, fd, hcut⟩ : ∃ nm re fd, cutAt con 58 = (nm, re, fd) := ⟨_, _, _, rfl⟩
        have hsz2 := cutAt_two con 58
        rw [hcut] at hsz2
        dsimp only at hsz2
        obtain ⟨hs1, hs2⟩ := hsz2
        have hcf : strings_Cut.f con ⟨#[58]⟩ = some (nm, re, fd) := by
          unfold strings_Cut.f
          rw [if_pos ⟨by omega, rfl⟩]
          exact congrArg some hcut
        have HCF := Aside0.mk hcf
        have E : stepP st ⟨con, fr, un⟩ = if fd = false ∨ isNameB nm = false ∨ 400 ≤ st.fs.length then (st, false) else (⟨doneF st.fs st.vs ++ [⟨nm, ⟨#[]⟩⟩], addV [] re, un⟩, true) := by
          unfold stepP
          rw [if_neg z, if_neg hq, hcut]
        obtain ⟨kn, hkn⟩ := (isName_ev nm (by omega)).rounds
        have HN2 := Aside0.mk hkn
        clear hcf hcut hkn
        have both : (∃ bb, Aside0 (blankB (byteAt con 0) = bb) ∧ bb = false) ∨ (Aside0 (blankB (byteAt con 0) = true) ∧ st.fs.length = 0) := by
          cases hb : blankB (byteAt con 0) with
          | false => exact .inl ⟨false, .mk rfl, rfl⟩
          | true => exact .inr ⟨.mk rfl, by
              rcases Nat.eq_zero_or_pos st.fs.length with h | h
              · exact h
              · exact absurd ⟨hb, h⟩ hq⟩
        clear hq z
        have dI : ∀ (m : Nat), IntKind.i64.wrap (m : Int) = IntKind.i64.wrap (m : Int) := fun _ => rfl
        clear dI
        rcases Bool.eq_false_or_eq_true fd with rfl | rfl
        case inr =>
          rw [if_pos (.inl rfl)] at E
          have HE := Aside0.mk E
          clear E
          rcases both with ⟨bb, HQ, rfl⟩ | ⟨HQ, hq0⟩
          case' inr => rw [hq0] at cP0
          all_goals
            gi_wp2_with fail
            refine (CallsIn.inRound l (callsIn_wide.2 (header_blank.calls _ _ _ HBL.out))).mono ?_
            rintro e w1 ⟨rfl, ⟨nd, rfl⟩⟩
            rw [HQ.out]
            gi_wp2_with fail
            refine (CallsIn.inRound l (callsIn_wide.2 (strings_Cut.calls _ _ _ _ _ _ HCF.out))).mono ?_
            rintro e w1 ⟨rfl, ⟨nd2, rfl⟩⟩
            gi_wp2_with fail
            exact ST.out _ _ _ _ ((Stp.refl w.heap.size W).drewN _) HE.out (pst_drewN HP.out _) _
        case inl =>
        rcases Bool.eq_false_or_eq_true (isNameB nm) with hnm | hnm
        case inr =>
          rw [if_pos (.inr (.inl hnm))] at E
          have HE := Aside0.mk E
          rw [hnm] at HN2
          clear E hnm
          rcases both with ⟨bb, HQ, rfl⟩ | ⟨HQ, hq0⟩
          case' inr => rw [hq0] at cP0
          all_goals
            gi_wp2_with fail
            refine (CallsIn.inRound l (callsIn_wide.2 (header_blank.calls _ _ _ HBL.out))).mono ?_
            rintro e w1 ⟨rfl, ⟨nd, rfl⟩⟩
            rw [HQ.out]
            gi_wp2_with fail
            refine (CallsIn.inRound l (callsIn_wide.2 (strings_Cut.calls _ _ _ _ _ _ HCF.out))).mono ?_
            rintro e w1 ⟨rfl, ⟨nd2, rfl⟩⟩
            gi_wp2_with fail
            refine (CallsIn.inRound l (callsIn_wide.2 (header_isName.calls kn _ _ _ HN2.out))).mono ?_
            rintro e w1 ⟨rfl, ⟨nd3, rfl⟩⟩
            gi_wp2_with fail
            exact ST.out _ _ _ _ ((Stp.refl w.heap.size W).drewN _) HE.out (pst_drewN HP.out _) _
        case inl =>
        rw [hnm] at HN2
        rcases Nat.lt_or_ge st.fs.length 400 with h4 | h4
        case inr =>
          rw [if_pos (.inr (.inr h4))] at E
          have HE := Aside0.mk E
          have h4I : (400 : Int) ≤ (st.fs.length : Int) := by omega
          clear E hnm
          rcases both with ⟨bb, HQ, rfl⟩ | ⟨HQ, hq0⟩
          case' inr => omega
          all_goals
            gi_wp2_with fail
            refine (CallsIn.inRound l (callsIn_wide.2 (header_blank.calls _ _ _ HBL.out))).mono ?_
            rintro e w1 ⟨rfl, ⟨nd, rfl⟩⟩
            rw [HQ.out]
            gi_wp2_with fail
            refine (CallsIn.inRound l (callsIn_wide.2 (strings_Cut.calls _ _ _ _ _ _ HCF.out))).mono ?_
            rintro e w1 ⟨rfl, ⟨nd2, rfl⟩⟩
            gi_wp2_with fail
            refine (CallsIn.inRound l (callsIn_wide.2 (header_isName.calls kn _ _ _ HN2.out))).mono ?_
            rintro e w1 ⟨rfl, ⟨nd3, rfl⟩⟩
            gi_wp2_with fail
            exact ST.out _ _ _ _ ((Stp.refl w.heap.size W).drewN _) HE.out (pst_drewN HP.out _) _
        case inl =>
        have h4N : ¬ 400 ≤ st.fs.length := by omega
        rw [if_neg (by rintro (h | h | h) <;> first | (cases h; done) | (rw [hnm] at h; cases h; done) | omega)] at E
        have HE := Aside0.mk E
        have h4I : ¬ (400 : Int) ≤ (st.fs.length : Int) := by omega
        have h4J : (st.fs.length : Int) < 400 := by omega
        have hjs : (joinS st.vs).size ≤ 140737488355328 := by
          refine Nat.le_trans (joinS_size bM) (Nat.le_trans (Nat.mul_le_mul_right _ (show st.vs.length ≤ 8388609 by omega)) (by decide))
        obtain ⟨i0, hi, hz0, hz1, hz2⟩ := info_parts info35
        clear E hnm
        rcases both with ⟨bb, HQ, rfl⟩ | ⟨HQ, hq0⟩
        case' inr => rw [hq0] at cP0; clear hq0
        all_goals
          gi_wp2_with fail
          refine (CallsIn.inRound l (callsIn_wide.2 (header_blank.calls _ _ _ HBL.out))).mono ?_
          rintro e w1 ⟨rfl, ⟨nd, rfl⟩⟩
          rw [HQ.out]
          gi_wp2_with fail
          refine (CallsIn.inRound l (callsIn_wide.2 (strings_Cut.calls _ _ _ _ _ _ HCF.out))).mono ?_
          rintro e w1 ⟨rfl, ⟨nd2, rfl⟩⟩
          gi_wp2_with fail
          refine (CallsIn.inRound l (callsIn_wide.2 (header_isName.calls kn _ _ _ HN2.out))).mono ?_
          rintro e w1 ⟨rfl, ⟨nd3, rfl⟩⟩
          gi_wp2_with fail
          refine (CallsIn.inRound l (callsIn_wide.2 (fin_ps (pst_drewN HP.out _) (Nat.le_refl _) (by omega) (by omega) (by omega) hjs hn0))).mono ?_
          rintro e W1 ⟨rfl, hP1, hS1⟩
          have hS2 := (((Stp.refl w.heap.size W).drewN _).trans hS1)
          have hX1 := hS2.lv HX.out
          have cX2' : W1.cell? ⟨Bx, 2, none⟩ = some (.int .i64 (un : Int)) := by simp [World.cell?, hX1]
          have cP0' : W1.cell? ⟨w.heap.size, 0, none⟩ = some (.slice AF st.fs.length cF) := by simp [World.cell?, hP1.c0]
          have hn1 : w.heap.size ≤ W1.heap.size := Nat.le_trans hn0 hS2.size
          have HP1 := Aside0.mk hP1
          have HS2 := Aside0.mk hS2
          clear hP1 hS1 hS2 hX1
          have hfl := doneF_length st.fs st.vs
          have hoF := HP1.out.oF
          dsimp only at hoF
          rw [hfl] at hoF
          gi_wp2_with (gi_at_builtin; refine wpListIn_append_own _ rfl _ _ 33 rfl w.heap.size 35 i0 (.agg #[(.string ⟨#[]⟩), (.string ⟨#[]⟩)]) 2 32 Tryz.underlying33 hi hz0 hz1 hz2 rfl (by decide) _ _ _ rfl (hoF.alloc _) ⟨W1.heap.size, 0, none⟩ 1 1 [.string nm, .string ⟨#[]⟩] rfl rfl ?c1 ?c2 ?c3 ?c4 ?c5 ?_)
          case c1 =>
            intro j u hj
            match j, hj with
            | 0, hj => simp at hj; subst hj; exact World.cell?_alloc_new W1 _ _ _
            | 1, hj => simp at hj; subst hj; exact World.cell?_alloc_new W1 _ _ _
          case c2 => intro u hu; simp at hu; rcases hu with rfl | rfl <;> rfl
          case c3 => unfold maxLen; omega
          case c4 => omega
          case c5 => simp; omega
          intro v' w2 hown' hgrow _
          obtain ⟨gv, capv, rfl⟩ := ownsRow_succ hown'
          have hown2 := hown'
          rw [← hfl] at hown2
          obtain ⟨k1, k2, k3, k4⟩ := app_ps HP1.out (Nat.le_refl _) hn1 hown2 hgrow
          rw [hfl] at k3 k4
          have HK3 := Aside0.mk k3
          have HK4 := Aside0.mk (HS2.out.trans k4)
          have cA3 : (w2.setCell ⟨w.heap.size, 0, none⟩ (.slice (some ⟨gv, 0, none⟩) (st.fs.length + 1) capv)).cell? ⟨w.heap.size + 1 + 1 + 1, 0, none⟩ = some (.func (.func 59) #[] #[.pointer (some ⟨w.heap.size + 1, 0, none⟩)]) := cell_of k3.c3 rfl
          have hn2 := HK4.out.size
          have hX3 := HK4.out.lv HX.out
          have cX4 : (w2.setCell ⟨w.heap.size, 0, none⟩ (.slice (some ⟨gv, 0, none⟩) (st.fs.length + 1) capv)).cell? ⟨Bx, 2, none⟩ = some (.int .i64 (un : Int)) := cell_of hX3 rfl
          clear hown' hown2 hgrow k3 k4 hoF hX3
          gi_wp2_with fail
          refine (CallsIn.inRound l (callsIn_wide.2 (add_ps HK3.out (by omega) re (by omega) (Nat.zero_le _) (Nat.le_trans hn0 hn2)))).mono ?_
          rintro e W5 ⟨rfl, ⟨vV5, hP5⟩, hS5⟩
          have hS6 := HK4.out.trans hS5
          have hX6 := hS6.lv HX.out
          have cX6 : W5.cell? ⟨Bx, 2, none⟩ = some (.int .i64 (un : Int)) := cell_of hX6 rfl
          have fP6 : W5.frozen? ⟨w.heap.size + 1 + 1 + 1 + 1, 0, none⟩ = false := frozen_of hP5.c4
          have cP6 : W5.cell? ⟨w.heap.size + 1 + 1 + 1 + 1, 0, none⟩ = some (.int .i64 (st.en : Int)) := cell_of hP5.c4 rfl
          have HP5 := Aside0.mk hP5
          have HS6 := Aside0.mk hS6
          clear hP5 hS5 hS6 hX6
          gi_wp2_with fail
          obtain ⟨h1, h2⟩ := en_ps HP5.out (by omega) un
          exact GO.out _ _ _ _ (HS6.out.trans h2) HE.out h1 _
  case' done =>
    rintro D zs W hD hS ⟨⟨st, vF, vV, hgo, hP⟩, hB⟩ hK
    have hz : zs.length ≤ 8388609 := by rw [← List.length_map (f := lineNo a0), hS]; exact hN
    obtain ⟨bV, bM, bF⟩ := goP_bd (hM zs) (k := 0) (st := ⟨[], [], 0⟩) ⟨Nat.le_refl _, (fun v hv => by cases hv), Nat.zero_le _⟩ hgo
    rw [List.length_map] at bV
    replace bV : st.vs.length ≤ 8388610 := by omega
    have hfo := foldP_of_goP hgo
    rw [hS] at hfo
    clear hgo hS hz
  case' stop =>
    rintro D c pre W hD hS ⟨⟨rfl, pre0, x, st0, vF, vV, rfl, hgo, hx2, hP⟩, hB⟩ hK
    have hz : (pre0 ++ [x]).length ≤ 8388609 := by rw [← List.length_map (f := lineNo a0)]; exact Nat.le_trans hS.length_le hN
    obtain ⟨rest, hrest⟩ := hS
    have hbd := goP_bd (hM pre0) (k := 0) (st := ⟨[], [], 0⟩) ⟨Nat.le_refl _, (fun v hv => by cases hv), Nat.zero_le _⟩ hgo
    have hbd2 := stepP_bd (x := lineNo a0 x) hbd (Nat.le_trans (lineNo_con a0 x) hsz)
    have hfo := foldP_stop (rest := rest) hgo hx2
    rw [List.map_append, List.map_cons, List.map_nil] at hrest
    rw [hrest] at hfo
    generalize (stepP st0 (lineNo a0 x)).1 = st at *
    obtain ⟨bV, bM, bF⟩ := hbd2
    rw [List.length_map] at bV
    rw [List.length_append, List.length_singleton] at hz
    replace bV : st.vs.length ≤ 8388610 := by omega
    clear hgo hx2 hz hrest hbd
  all_goals
    have hn0 := hB.size
    have hjs : (joinS st.vs).size ≤ 140737488355328 := by
      refine Nat.le_trans (joinS_size bM) (Nat.le_trans (Nat.mul_le_mul_right _ bV) (by decide))
    have cP2 : W.cell? ⟨w.heap.size + 1 + 1, 0, none⟩ = some (.func (.func 57) #[] #[.pointer (some ⟨w.heap.size, 0, none⟩), .pointer (some ⟨w.heap.size + 1, 0, none⟩)]) := cell_of hP.c2 rfl
    have HP := Aside0.mk hP
    have HB := Aside0.mk hB
    have HK := Aside0.mk hK
    have HF := Aside0.mk hfo
    clear hP hB hK hfo
    gi_wp2_with fail
    refine (callsIn_wide.2 (fin_ps HP.out (Nat.le_refl _) (by omega) (by omega) (by omega) hjs hn0)).mono ?_
    rintro e W1 ⟨rfl, hP1, hS1⟩
    obtain ⟨AF, cF, rfl⟩ := own_slice hP1.oF
    have c0' : W1.cell? ⟨w.heap.size, 0, none⟩ = some (.slice AF (doneF st.fs st.vs).length cF) := cell_of hP1.c0 rfl
    have c4' : W1.cell? ⟨w.heap.size + 1 + 1 + 1 + 1, 0, none⟩ = some (.int .i64 (st.en : Int)) := cell_of hP1.c4 rfl
    have hK' := (hS1.keeps W0.heap.size).same D _ hD HK.out rfl
    have HP1 := Aside0.mk hP1
    have HS1 := Aside0.mk hS1
    have HK' := Aside0.mk hK'
    clear hP1 hS1 hK'
    gi_wp2_with fail
    have hmx : Tryz.prog.follows .mixedOrders = true := by kernel_rfl
    gi_region
    gi_wp2
    have hK2 : W1.drew.heap[D]? = some (.deferred (some [])) := HK'.out
    refine ⟨by simp, .inl ⟨D, _, rfl, run_takeDeferred hK2, ?_⟩⟩
    have hps : parseS a0 = (doneF st.fs st.vs, st.en) := by unfold parseS; rw [HF.out]
    have hP2 := pst_own _ _ (some D) (pst_drewN HP1.out 1) (grownBy_putObj' W1.drew D (.deferred none)) (fun r e => by cases e; exact ⟨_, hK2, rfl⟩)
    have hbel : Below w.heap.size w (W1.drew.putObj D (.deferred none)) := (HB.out.trans ((HS1.out.drewN 1).below hn0)).trans (belowK_b (w := w) (Nat.le_refl _) _ D _ _ (by omega) hK2 rfl rfl)
    rw [hps]
    exact ⟨_, by simp [results, Tryz.f22, go_sem], _, rfl, pst_result hP2, hbel⟩
end Go.Proofs.YtieompfmhnpnaaaGreat.H
