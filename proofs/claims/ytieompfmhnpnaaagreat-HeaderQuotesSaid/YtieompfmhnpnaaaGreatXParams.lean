/- Contracts by hand: header.Params. -/
import Derived.Test.YtieompfmhnpnaaaGreatB0
import Derived.Test.YtieompfmhnpnaaaGreatBa
import Derived.Test.YtieompfmhnpnaaaGreatBb
import Derived.Test.YtieompfmhnpnaaaGreatB35
import Derived.Test.YtieompfmhnpnaaaGreatXParamsA
import Derived.Carry
-- needs: text_Trim header_isToken header_paramValue
namespace Go.Proofs.YtieompfmhnpnaaaGreat.H
open Go.RowKit Go.Proofs.YtieompfmhnpnaaaGreatW.PrintWords Go.Proofs.YtieompfmhnpnaaaGreatW.PrintLast Go.Proofs.YtieompfmhnpnaaaGreatW.PrintMore
set_option linter.unusedVariables false
set_option linter.unusedSimpArgs false
attribute [local go_sem] Oper.semAt_some
attribute [local go_sem] wide_fn wide_depth wide_fn_r wide_depth_r

def header_Params.f (a0 : ByteArray) : Option (ByteArray × List S25) := if a0.size ≤ 8388608 then some (paramsS a0) else none

def InvQ (n0 b0 b1 b2 bm b3 bs : Nat) (raw : ByteArray) (w : World) (pre : List Nat) (W : World) : Prop :=
  (∃ vP, QSt n0 b0 b1 b2 bm b3 bs raw (foldQ ⟨⟨#[]⟩, true, []⟩ (pre.map (pieceNo raw))) (namesOf (foldQ ⟨⟨#[]⟩, true, []⟩ (pre.map (pieceNo raw))).ps) vP W) ∧ Below n0 w W

set_option maxRecDepth 100000 in
set_option maxHeartbeats 4000000 in
theorem header_Params.calls (a0 : ByteArray) (r1 : ByteArray) (r2 : List S25) (w : World) (h : header_Params.f a0 = some (r1, r2)) :
    Calls Tryz.prog 11 #[.string a0] w fun e w' => ∃ v0_ : Value, e = .returned (.tuple #[.string r1, v0_]) ∧ Kd.R k25 25 w' w.heap.size (fun _ => True) v0_ r2 ∧ Below w.heap.size w w' := by
  unfold header_Params.f at h
  split at h
  case isFalse => cases h
  case isTrue hsz =>
  injection h with h
  refine callsIn_wide.1 (callsIn_of_wp_marks (n := 10) Tryz.func11 rfl trivial ?_ rfl)
  simp only [Tryz.ntmps11, List.size_toArray, List.length_cons, List.length_nil, Nat.reduceAdd, Nat.reduceSub, Array.replicate_succ, Array.replicate_zero, List.push_toArray, List.append_toArray, List.nil_append, List.cons_append]
  have hmk : ∀ W : World, (Instr.makeMap 54 none).run Tryz.prog W = .ok (.map (some W.heap.size)) (W.alloc (.map #[] 0)) := fun W => run_makeMap 54 W
  gi_wp2_with (gi_at_call 39; refine (pieces_in _ _ _).mono ?_; rintro e w' ⟨rfl, rfl⟩)
  obtain ⟨W0, hW0⟩ : ∃ W0, w0Q w a0 = W0 := ⟨_, rfl⟩
  have hs0 := w0Q_size w a0
  have hB0 := w0Q_below w a0
  have hP0 := qst_start w a0
  rw [hW0] at hs0 hB0 hP0
  unfold w0Q at hW0
  rw [hW0]
  clear hW0 hmk
  have hN : (piecesOf a0).length ≤ 8388610 := Nat.le_trans (piecesAt_length a0 _ _ _ _) (by omega)
  refine wpIn_rangeFunc_ownH rfl (by decide) (gf := 70) (lb := #[.pointer (some ⟨w.heap.size + 1 + 1 + 1 + 1 + 1, 0, none⟩)]) rfl trivial (enters_of Tryz.func70 (by kernel_rfl) rfl)
    (encs := fun i : Nat => #[Value.string (pieceNo a0 i)]) (pieces_stops 9 (w.heap.size + 1 + 1 + 1 + 1 + 1) a0 (by omega) W0 (by omega) hP0.cs) (Kp := fun W W' => W'.heap[w.heap.size + 1 + 1 + 1 + 1 + 1]? = W.heap[w.heap.size + 1 + 1 + 1 + 1 + 1]?) (fun {A B C} h k => Eq.trans k h) (fun W l o o' hl ho _ _ => World.putObj_heap_other (by omega)) (Below.refl _ _) (fun _ => rfl)
    (InvQ w.heap.size w.heap.size (w.heap.size + 1) (w.heap.size + 1 + 1) (w.heap.size + 1 + 1 + 1) (w.heap.size + 1 + 1 + 1 + 1) (w.heap.size + 1 + 1 + 1 + 1 + 1) a0 w) (fun _ _ _ => False)
    ?ownI (fun _ _ _ _ _ h _ _ => h) ⟨⟨_, hP0⟩, hB0⟩
    (fun x a' W => a' = { tmps := #[Value.string a0, undef, Value.string ⟨#[]⟩, Value.slice none 0 0, Value.pointer (some ⟨w.heap.size, 0, none⟩), Value.pointer (some ⟨w.heap.size + 1, 0, none⟩), Value.pointer (some ⟨w.heap.size + 1 + 1, 0, none⟩), Value.pointer (some ⟨w.heap.size + 1 + 1 + 1 + 1, 0, none⟩), Value.string (pieceNo a0 x), undef, undef, undef, undef, undef, Value.map (some (w.heap.size + 1 + 1 + 1)), Value.string a0, Value.func (Fn.func 70) #[] #[Value.pointer (some ⟨w.heap.size + 1 + 1 + 1 + 1 + 1, 0, none⟩)], Value.string (pieceNo a0 x), undef, undef, undef, undef, undef, undef, undef, undef, undef, undef, undef, undef, undef, undef, undef, undef, undef, undef, undef, undef, undef, undef, undef, undef, undef, undef, undef, undef, undef, undef, undef, undef, undef, undef, undef, undef, undef, undef, undef, undef, undef], defers := [] })
    (fun _ _ _ _ _ _ h _ _ => h) ?assign ?body ?done (fun _ _ _ _ _ _ h _ => h.elim)
  case ownI =>
    refine OwnFrom.and (fun pre X Y row hs hg hr => ?_) (ownFrom_below (Nat.le_refl _) (by omega))
    obtain ⟨vP, h1⟩ := hs
    exact ⟨vP, qst_own X Y row h1 hg (fun r e => ⟨by have := (hr r e).1; omega, (hr r e).2⟩)⟩
  case assign =>
    rintro l pre x W K hI hK
    gi_wp2
    exact hK _ _ (KeepsFrom.refl _ _) rfl hI rfl
  case body =>
    rintro l pre x a' W hl ⟨r, hr⟩ ⟨⟨vP, hP⟩, hB⟩ rfl hlt
    have hlen := foldQ_len ⟨⟨#[]⟩, true, []⟩ (pre.map (pieceNo a0))
    have hsnoc := foldQ_snoc ⟨⟨#[]⟩, true, []⟩ (pre.map (pieceNo a0)) (pieceNo a0 x)
    have hmap : (pre ++ [x]).map (pieceNo a0) = pre.map (pieceNo a0) ++ [pieceNo a0 x] := by simp
    rw [← hmap] at hsnoc
    clear hmap
    rw [List.length_map] at hlen
    generalize foldQ ⟨⟨#[]⟩, true, []⟩ (pre.map (pieceNo a0)) = st at hP hlen hsnoc
    have hps : st.ps.length ≤ 8388610 := by simp at hlen; omega
    have hpc := Nat.le_trans (pieceNo_size a0 x) hsz
    have hn0 := hB.size
    have goes : ∀ W3 vP3, Below w.heap.size W W3 → KeepsFrom W0.heap.size W W3 → QSt w.heap.size w.heap.size (w.heap.size + 1) (w.heap.size + 1 + 1) (w.heap.size + 1 + 1 + 1) (w.heap.size + 1 + 1 + 1 + 1) (w.heap.size + 1 + 1 + 1 + 1 + 1) a0 (stepQ st (pieceNo a0 x)) (namesOf (stepQ st (pieceNo a0 x)).ps) vP3 W3 → ∀ act, ownPostG W0.heap.size (fun W W' => W'.heap[w.heap.size + 1 + 1 + 1 + 1 + 1]? = W.heap[w.heap.size + 1 + 1 + 1 + 1 + 1]?) (InvQ w.heap.size w.heap.size (w.heap.size + 1) (w.heap.size + 1 + 1) (w.heap.size + 1 + 1 + 1) (w.heap.size + 1 + 1 + 1 + 1) (w.heap.size + 1 + 1 + 1 + 1 + 1) a0 w) (fun _ _ _ => False) (pre ++ [x]) W .normal act W3 := by
      intro W3 vP3 h1 h2 h3 act
      refine ⟨h2, h3.cs.trans hP.cs.symm, ⟨vP3, ?_⟩, hB.trans h1⟩
      rw [hsnoc]
      exact h3
    clear hsnoc hlen
    generalize pieceNo a0 x = pc at goes hpc
    obtain ⟨AF, cF, rfl⟩ := own_slice hP.oP
    have cP0 : W.cell? ⟨w.heap.size, 0, none⟩ = some (.string st.main) := cell_of hP.c0 rfl
    have fP0 : W.frozen? ⟨w.heap.size, 0, none⟩ = false := frozen_of hP.c0
    have cP1 : W.cell? ⟨w.heap.size + 1, 0, none⟩ = some (.bool st.first) := cell_of hP.c1 rfl
    have fP1 : W.frozen? ⟨w.heap.size + 1, 0, none⟩ = false := frozen_of hP.c1
    have HP := Aside0.mk hP
    have GO := Aside0.mk goes
    clear goes
    obtain ⟨k1, hk1⟩ := (trim_ev pc (by omega)).rounds
    have HK1 := Aside0.mk hk1
    clear hk1
    by_cases z : st.first = true
    · rw [z] at cP1
      have E : stepQ st pc = ⟨trimS pc, false, st.ps⟩ := by unfold stepQ; rw [if_pos z]
      have HE := Aside0.mk E
      clear E z hP
      gi_wp2_with fail
      refine (CallsIn.inRound l (callsIn_wide.2 (text_Trim.calls k1 _ _ _ HK1.out))).mono ?_
      rintro e w1 ⟨rfl, ⟨nd, rfl⟩⟩
      gi_wp2_with fail
      obtain ⟨q1, q2, q3⟩ := qst_first (qst_below HP.out (pw_below_drewN (Below.refl _ W) nd)) (Nat.le_refl _) (by omega) (by omega) (trimS pc) W0.heap.size
      refine GO.out _ (.slice AF st.ps.length cF) ((pw_below_drewN (Below.refl _ W) nd).trans q2) ((keeps_below _ (pw_below_drewN (Below.refl W.heap.size W) nd)).trans q3) ?_ _
      rw [HE.out]
      exact q1
    · have z' : st.first = false := by simpa using z
      rw [z'] at cP1
      obtain ⟨n0, re, fd, hcut⟩ : ∃ n0 re fd, cutAt pc 61 = (n0, re, fd) := ⟨_, _, _, rfl⟩
      have hsz2 := cutAt_two pc 61
      rw [hcut] at hsz2
      dsimp only at hsz2
      obtain ⟨hs1, hs2⟩ := hsz2
      have hcf : strings_Cut.f pc ⟨#[61]⟩ = some (n0, re, fd) := by
        unfold strings_Cut.f
        rw [if_pos ⟨by omega, rfl⟩]
        exact congrArg some hcut
      have HCF := Aside0.mk hcf
      have ht1 := trim_size n0
      have hlow : text_Lower.f (trimS n0) = some (lowS (trimS n0)) := by unfold text_Lower.f; rw [if_pos (by omega)]
      have HLOW := Aside0.mk hlow
      have E : stepQ st pc = if fd = false ∨ isTokenB (lowS (trimS n0)) = false ∨ inB (lowS (trimS n0)) (namesOf st.ps) = true then st
          else if (valueS (trimS re)).2 = true then ⟨st.main, st.first, st.ps ++ [⟨lowS (trimS n0), (valueS (trimS re)).1⟩]⟩ else st := by
        unfold stepQ pnameS
        rw [if_neg z, hcut]
      have hnm := lowS_size (trimS n0)
      obtain ⟨k2, hk2⟩ := (trim_ev n0 (by omega)).rounds
      generalize lowS (trimS n0) = nm at *
      obtain ⟨k3, hk3⟩ := (isToken_ev nm (by omega)).rounds
      obtain ⟨k4, hk4⟩ := (trim_ev re (by omega)).rounds
      have ht2 := trim_size re
      obtain ⟨k5, hk5⟩ := (value_ev (trimS re) (by omega)).rounds
      obtain ⟨v, ok, hv⟩ : ∃ v ok, valueS (trimS re) = (v, ok) := ⟨_, _, rfl⟩
      rw [hv] at hk5 E
      dsimp only at E
      have HK2 := Aside0.mk hk2
      have HK3 := Aside0.mk hk3
      have HK4 := Aside0.mk hk4
      have HK5 := Aside0.mk hk5
      have hnmx : nm.size ≤ maxLen := by unfold maxLen; omega
      clear hcf hcut hlow hk2 hk3 hk4 hk5 hv z hP
      cases fd with
      | false =>
        rw [if_pos (.inl rfl)] at E
        have HE := Aside0.mk E
        clear E
        gi_wp2_with fail
        refine (CallsIn.inRound l (callsIn_wide.2 (strings_Cut.calls _ _ _ _ _ _ HCF.out))).mono ?_
        rintro e w1 ⟨rfl, ⟨nd, rfl⟩⟩
        gi_wp2_with fail
        refine (CallsIn.inRound l (callsIn_wide.2 (text_Trim.calls k2 _ _ _ HK2.out))).mono ?_
        rintro e w1 ⟨rfl, ⟨nd2, rfl⟩⟩
        gi_wp2_with fail
        refine (CallsIn.inRound l (callsIn_wide.2 (text_Lower.calls _ _ _ HLOW.out))).mono ?_
        rintro e w1 ⟨rfl, hb1⟩
        have hb : Below W.heap.size W w1 := (pw_below_drewN (Below.refl W.heap.size W) _).trans hb1
        have HB := Aside0.mk hb
        clear hb hb1
        gi_wp2_with fail
        refine GO.out _ (.slice AF st.ps.length cF) (HB.out.mono hn0) (keeps_below _ HB.out) ?_ _
        rw [HE.out]
        exact qst_below HP.out HB.out
      | true =>
      cases htk : isTokenB nm with
      | false =>
        rw [htk] at HK3
        rw [if_pos (.inr (.inl htk))] at E
        have HE := Aside0.mk E
        clear E htk
        gi_wp2_with fail
        refine (CallsIn.inRound l (callsIn_wide.2 (strings_Cut.calls _ _ _ _ _ _ HCF.out))).mono ?_
        rintro e w1 ⟨rfl, ⟨nd, rfl⟩⟩
        gi_wp2_with fail
        refine (CallsIn.inRound l (callsIn_wide.2 (text_Trim.calls k2 _ _ _ HK2.out))).mono ?_
        rintro e w1 ⟨rfl, ⟨nd2, rfl⟩⟩
        gi_wp2_with fail
        refine (CallsIn.inRound l (callsIn_wide.2 (text_Lower.calls _ _ _ HLOW.out))).mono ?_
        rintro e w1 ⟨rfl, hb1⟩
        have hb : Below W.heap.size W w1 := (pw_below_drewN (Below.refl W.heap.size W) _).trans hb1
        have HB := Aside0.mk hb
        clear hb hb1
        gi_wp2_with fail
        refine (CallsIn.inRound l (callsIn_wide.2 (header_isToken.calls k3 _ _ _ HK3.out))).mono ?_
        rintro e w2 ⟨rfl, ⟨nd3, rfl⟩⟩
        gi_wp2_with fail
        have hb2 : Below W.heap.size W (w1.drewN nd3) := pw_below_drewN HB.out nd3
        refine GO.out _ (.slice AF st.ps.length cF) (hb2.mono hn0) (keeps_below _ hb2) ?_ _
        rw [HE.out]
        exact qst_below HP.out hb2
      | true =>
      rw [htk] at HK3
      cases hin : inB nm (namesOf st.ps) with
      | true =>
        rw [if_pos (.inr (.inr hin))] at E
        have HE := Aside0.mk E
        have HI := Aside0.mk hin
        clear E hin htk
        gi_wp2_with fail
        refine (CallsIn.inRound l (callsIn_wide.2 (strings_Cut.calls _ _ _ _ _ _ HCF.out))).mono ?_
        rintro e w1 ⟨rfl, ⟨nd, rfl⟩⟩
        gi_wp2_with fail
        refine (CallsIn.inRound l (callsIn_wide.2 (text_Trim.calls k2 _ _ _ HK2.out))).mono ?_
        rintro e w1 ⟨rfl, ⟨nd2, rfl⟩⟩
        gi_wp2_with fail
        refine (CallsIn.inRound l (callsIn_wide.2 (text_Lower.calls _ _ _ HLOW.out))).mono ?_
        rintro e w1 ⟨rfl, hb1⟩
        have hb : Below W.heap.size W w1 := (pw_below_drewN (Below.refl W.heap.size W) _).trans hb1
        have hq1 := qst_below HP.out hb
        have c3' : w1.cell? ⟨w.heap.size + 1 + 1 + 1 + 1, 0, none⟩ = some (.map (some (w.heap.size + 1 + 1 + 1))) := cell_of hq1.c3 rfl
        have HB := Aside0.mk hb
        have HQ1 := Aside0.mk hq1
        clear hb hb1 hq1
        gi_wp2_with fail
        refine (CallsIn.inRound l (callsIn_wide.2 (header_isToken.calls k3 _ _ _ HK3.out))).mono ?_
        rintro e w2 ⟨rfl, ⟨nd3, rfl⟩⟩
        have hb2 : Below W.heap.size W (w1.drewN nd3) := pw_below_drewN HB.out nd3
        have hq2 := qst_below HP.out hb2
        have hlook := qst_look hq2 nm hnmx
        have HB2 := Aside0.mk hb2
        have HQ2 := Aside0.mk hq2
        clear hb2 hq2
        rw [HI.out] at hlook
        gi_wp2_with fail
        refine GO.out _ (.slice AF st.ps.length cF) (HB2.out.mono hn0) (keeps_below _ HB2.out) ?_ _
        rw [HE.out]
        exact HQ2.out
      | false =>
      rw [if_neg (by rintro (h | h | h) <;> first | (cases h; done) | (rw [htk] at h; cases h; done) | (rw [hin] at h; cases h; done))] at E
      have HI := Aside0.mk hin
      clear hin htk
      cases ok with
      | false =>
        rw [if_neg (by decide)] at E
        have HE := Aside0.mk E
        clear E
        gi_wp2_with fail
        refine (CallsIn.inRound l (callsIn_wide.2 (strings_Cut.calls _ _ _ _ _ _ HCF.out))).mono ?_
        rintro e w1 ⟨rfl, ⟨nd, rfl⟩⟩
        gi_wp2_with fail
        refine (CallsIn.inRound l (callsIn_wide.2 (text_Trim.calls k2 _ _ _ HK2.out))).mono ?_
        rintro e w1 ⟨rfl, ⟨nd2, rfl⟩⟩
        gi_wp2_with fail
        refine (CallsIn.inRound l (callsIn_wide.2 (text_Lower.calls _ _ _ HLOW.out))).mono ?_
        rintro e w1 ⟨rfl, hb1⟩
        have hb : Below W.heap.size W w1 := (pw_below_drewN (Below.refl W.heap.size W) _).trans hb1
        have hq1 := qst_below HP.out hb
        have c3' : w1.cell? ⟨w.heap.size + 1 + 1 + 1 + 1, 0, none⟩ = some (.map (some (w.heap.size + 1 + 1 + 1))) := cell_of hq1.c3 rfl
        have HB := Aside0.mk hb
        have HQ1 := Aside0.mk hq1
        clear hb hb1 hq1
        gi_wp2_with fail
        refine (CallsIn.inRound l (callsIn_wide.2 (header_isToken.calls k3 _ _ _ HK3.out))).mono ?_
        rintro e w2 ⟨rfl, ⟨nd3, rfl⟩⟩
        have hb2 : Below W.heap.size W (w1.drewN nd3) := pw_below_drewN HB.out nd3
        have hq2 := qst_below HP.out hb2
        have hlook := qst_look hq2 nm hnmx
        have HB2 := Aside0.mk hb2
        have HQ2 := Aside0.mk hq2
        clear hb2 hq2
        rw [HI.out] at hlook
        gi_wp2_with fail
        refine (CallsIn.inRound l (callsIn_wide.2 (text_Trim.calls k4 _ _ _ HK4.out))).mono ?_
        rintro e w3 ⟨rfl, ⟨nd4, rfl⟩⟩
        gi_wp2_with fail
        refine (CallsIn.inRound l (callsIn_wide.2 (header_paramValue.calls k5 _ _ _ _ HK5.out))).mono ?_
        rintro e w4 ⟨rfl, hb4⟩
        have hb5 : Below W.heap.size W w4 := (pw_below_drewN HB.out (nd3 + nd4)).trans (hb4.mono HB2.out.size)
        have HB5 := Aside0.mk hb5
        clear hb4 hb5
        gi_wp2_with fail
        refine GO.out _ (.slice AF st.ps.length cF) (HB5.out.mono hn0) (keeps_below _ HB5.out) ?_ _
        rw [HE.out]
        exact qst_below HP.out HB5.out
      | true =>
        rw [if_pos rfl] at E
        have HE := Aside0.mk E
        obtain ⟨i0, hi, hz0, hz1, hz2⟩ := info_parts info25
        clear E
        gi_wp2_with fail
        refine (CallsIn.inRound l (callsIn_wide.2 (strings_Cut.calls _ _ _ _ _ _ HCF.out))).mono ?_
        rintro e w1 ⟨rfl, ⟨nd, rfl⟩⟩
        gi_wp2_with fail
        refine (CallsIn.inRound l (callsIn_wide.2 (text_Trim.calls k2 _ _ _ HK2.out))).mono ?_
        rintro e w1 ⟨rfl, ⟨nd2, rfl⟩⟩
        gi_wp2_with fail
        refine (CallsIn.inRound l (callsIn_wide.2 (text_Lower.calls _ _ _ HLOW.out))).mono ?_
        rintro e w1 ⟨rfl, hb1⟩
        have hb : Below W.heap.size W w1 := (pw_below_drewN (Below.refl W.heap.size W) _).trans hb1
        have hq1 := qst_below HP.out hb
        have c3' : w1.cell? ⟨w.heap.size + 1 + 1 + 1 + 1, 0, none⟩ = some (.map (some (w.heap.size + 1 + 1 + 1))) := cell_of hq1.c3 rfl
        have HB := Aside0.mk hb
        have HQ1 := Aside0.mk hq1
        clear hb hb1 hq1
        gi_wp2_with fail
        refine (CallsIn.inRound l (callsIn_wide.2 (header_isToken.calls k3 _ _ _ HK3.out))).mono ?_
        rintro e w2 ⟨rfl, ⟨nd3, rfl⟩⟩
        have hb2 : Below W.heap.size W (w1.drewN nd3) := pw_below_drewN HB.out nd3
        have hq2 := qst_below HP.out hb2
        have hlook := qst_look hq2 nm hnmx
        have HB2 := Aside0.mk hb2
        have HQ2 := Aside0.mk hq2
        clear hb2 hq2
        rw [HI.out] at hlook
        gi_wp2_with fail
        refine (CallsIn.inRound l (callsIn_wide.2 (text_Trim.calls k4 _ _ _ HK4.out))).mono ?_
        rintro e w3 ⟨rfl, ⟨nd4, rfl⟩⟩
        gi_wp2_with fail
        refine (CallsIn.inRound l (callsIn_wide.2 (header_paramValue.calls k5 _ _ _ _ HK5.out))).mono ?_
        rintro e w4 ⟨rfl, hb4⟩
        have hb5 : Below W.heap.size W w4 := (pw_below_drewN HB.out (nd3 + nd4)).trans (hb4.mono HB2.out.size)
        have hq5 := qst_below HP.out hb5
        have cP2 : w4.cell? ⟨w.heap.size + 1 + 1, 0, none⟩ = some (.slice AF st.ps.length cF) := cell_of hq5.c2 rfl
        have hoP := hq5.oP
        have hn4 : w.heap.size ≤ w4.heap.size := Nat.le_trans hn0 hb5.size
        have HB5 := Aside0.mk hb5
        have HQ5 := Aside0.mk hq5
        clear hb4 hb5 hq5
        gi_wp2_with (gi_at_builtin; refine wpListIn_append_own _ rfl _ _ 22 rfl w.heap.size 25 i0 (.agg #[(.string ⟨#[]⟩), (.string ⟨#[]⟩)]) 2 32 Tryz.underlying22 hi hz0 hz1 hz2 rfl (by decide) _ _ _ rfl (hoP.alloc _) ⟨w4.heap.size, 0, none⟩ 1 1 [.string nm, .string v] rfl rfl ?c1 ?c2 ?c3 ?c4 ?c5 ?_)
        case c1 =>
          intro j u hj
          match j, hj with
          | 0, hj => simp at hj; subst hj; exact World.cell?_alloc_new w4 _ _ _
          | 1, hj => simp at hj; subst hj; exact World.cell?_alloc_new w4 _ _ _
        case c2 => intro u hu; simp at hu; rcases hu with rfl | rfl <;> rfl
        case c3 => unfold maxLen; omega
        case c4 => omega
        case c5 => simp; omega
        intro v' w5 hown' hgrow _
        obtain ⟨gv, capv, rfl⟩ := ownsRow_succ hown'
        obtain ⟨k1', k2', k3', k4', k5'⟩ := qst_app HQ5.out (by omega) hn4 W0.heap.size hown' hgrow
        have c37 : (w5.setCell ⟨w.heap.size + 1 + 1, 0, none⟩ (.slice (some ⟨gv, 0, none⟩) (st.ps.length + 1) capv)).cell? ⟨w.heap.size + 1 + 1 + 1 + 1, 0, none⟩ = some (.map (some (w.heap.size + 1 + 1 + 1))) := cell_of k3'.c3 rfl
        have hmp := k3'.mp
        have hn6 : w.heap.size ≤ (w5.setCell ⟨w.heap.size + 1 + 1, 0, none⟩ (.slice (some ⟨gv, 0, none⟩) (st.ps.length + 1) capv)).heap.size := Nat.le_trans hn4 k4'.size
        have HK3' := Aside0.mk k3'
        have HK4' := Aside0.mk k4'
        have HK5' := Aside0.mk k5'
        have hnl : (namesOf st.ps).length = st.ps.length := by simp [namesOf]
        have hnlt : (namesOf st.ps).length < maxLen := by rw [hnl]; unfold maxLen; omega
        clear hnl
        have hkey := WideMaps.keyOf_string_mk Tryz.underlying9 hnmx
        have hval := plainElem_bool (H := Unit) Tryz.underlying4 true
        clear hown' hgrow k3' k4' k5' hoP
        gi_wp2_with (gi_at_mapUpdate; refine wpListIn_mapUpdate_own _ rfl _ _ _ 54 rfl 9 4 K9 Tryz.underlying54 (plainElem Tryz.prog 4) (w.heap.size + 1 + 1 + 1) _ _ rfl hmp hnlt _ _ _ rfl rfl hkey _ [] hval ?_)
        intro w7 hm7 hg7
        obtain ⟨q1, q2, q3⟩ := qst_map HK3'.out (by omega) hn6 (nm := nm) W0.heap.size (by omega) hm7 hg7
        have HQ1' := Aside0.mk q1
        have HQ2' := Aside0.mk q2
        have HQ3' := Aside0.mk q3
        clear hm7 hg7 q1 q2 q3
        gi_wp2_with fail
        refine GO.out _ (.slice (some ⟨gv, 0, none⟩) (st.ps.length + 1) capv) (((HB5.out.mono hn0).trans HK4'.out).trans HQ2'.out) (((keeps_below _ HB5.out).trans HK5'.out).trans HQ3'.out) ?_ _
        rw [HE.out]
        have e : namesOf (st.ps ++ [⟨nm, v⟩]) = namesOf st.ps ++ [nm] := by simp [namesOf]
        dsimp only
        rw [e]
        exact HQ1'.out
  case done =>
    rintro D zs W hD hS ⟨⟨vP, hP⟩, hB⟩ hK
    have hn0 := hB.size
    have hps : paramsS a0 = ((foldQ ⟨⟨#[]⟩, true, []⟩ (zs.map (pieceNo a0))).main, (foldQ ⟨⟨#[]⟩, true, []⟩ (zs.map (pieceNo a0))).ps) := by
      unfold paramsS
      rw [hS]
    rw [h] at hps
    clear h
    generalize foldQ ⟨⟨#[]⟩, true, []⟩ (zs.map (pieceNo a0)) = st at *
    obtain ⟨hr1, hr2⟩ := Prod.mk.inj hps
    have HR1 := Lib.hid hr1
    have HR2 := Lib.hid hr2
    clear hps hr1 hr2
    obtain ⟨AF, cF, rfl⟩ := own_slice hP.oP
    have c0' : W.cell? ⟨w.heap.size, 0, none⟩ = some (.string st.main) := cell_of hP.c0 rfl
    have c2' : W.cell? ⟨w.heap.size + 1 + 1, 0, none⟩ = some (.slice AF st.ps.length cF) := cell_of hP.c2 rfl
    have HP := Aside0.mk hP
    have HB := Aside0.mk hB
    have HK := Aside0.mk hK
    clear hP hB hK
    have hmx : Tryz.prog.follows .mixedOrders = true := by kernel_rfl
    gi_wp2_with fail
    gi_region
    gi_wp2
    have hK2 : W.drew.heap[D]? = some (.deferred (some [])) := HK.out
    refine ⟨by simp, .inl ⟨D, _, rfl, run_takeDeferred hK2, ?_⟩⟩
    have hP2 := qst_own _ _ (some D) (qst_below HP.out (pw_below_drewN (Below.refl _ W) 1)) (grownBy_putObj' W.drew D (.deferred none)) (fun r e => by cases e; exact ⟨by omega, _, hK2, rfl⟩)
    have hbel : Below w.heap.size w (W.drew.putObj D (.deferred none)) := HB.out.drew.trans (belowK_b (w := w) (Nat.le_refl _) _ D _ _ (by omega) hK2 rfl rfl)
    rw [HR1.out, HR2.out]
    exact ⟨_, by simp [results, Tryz.f11, go_sem], _, rfl, qst_result hP2, hbel⟩
end Go.Proofs.YtieompfmhnpnaaaGreat.H
