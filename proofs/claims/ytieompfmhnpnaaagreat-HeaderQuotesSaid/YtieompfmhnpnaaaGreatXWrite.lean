/- Contracts by hand: header.Write. -/
import Derived.Test.YtieompfmhnpnaaaGreatB0
import Derived.Test.YtieompfmhnpnaaaGreatBa
import Derived.Test.YtieompfmhnpnaaaGreatBb
import Derived.Test.YtieompfmhnpnaaaGreatXFoldB
import Derived.Test.YtieompfmhnpnaaaGreatXPlain
import Derived.Deep.RegionHeld3
-- needs: header_isName text_Trim
namespace Go.Proofs.YtieompfmhnpnaaaGreat.H
open Go.RowKit Go.Proofs.YtieompfmhnpnaaaGreatW.PrintWords Go.Proofs.YtieompfmhnpnaaaGreatW.PrintLast Go.Proofs.YtieompfmhnpnaaaGreatW.PrintMore
set_option linter.unusedVariables false
set_option linter.unusedSimpArgs false

/-- A string with spaces for CR and LF. -/
def crlfS (s : ByteArray) : ByteArray := tabS s (tab2 13 32 10 32)
/-- The line of a field, before it is folded. -/
def lineS (f : S35) : ByteArray :=
  if (trimS (crlfS f.f1)).size = 0 then f.f0 ++ ⟨#[58]⟩ else (f.f0 ++ ⟨#[58]⟩) ++ (⟨#[32]⟩ ++ trimS (crlfS f.f1))
/-- What is written of a field. -/
def fieldL (f : S35) : List UInt8 := if isNameB f.f0 then foldL (lineS f).size (lineS f) (f.f0.size + 1) else []
def writeL (l : List S35) : List UInt8 := l.flatMap fieldL
/-- A bound on what is written. -/
def wsum (l : List S35) : Nat := (l.map fun f => 4 * (f.f0.size + f.f1.size) + 16).sum

theorem foldL_length : ∀ (f : Nat) (s : ByteArray) (b : Nat), (foldL f s b).length ≤ 2 * s.size + 1
  | 0, s, b => by unfold foldL; simp; omega
  | f + 1, s, b => by
    unfold foldL
    split
    · simp; omega
    · split
      · have := foldL_length f (s.extract (foldAtS s b) s.size) 0
        have := foldAtS_le s b
        simp at *
        omega
      · split
        · simp; omega
        · have := foldL_length f (⟨#[32]⟩ ++ s.extract 998 s.size) 0
          rw [ByteArray.size_append, show (⟨#[32]⟩ : ByteArray).size = 1 from rfl] at this
          simp at *
          omega
theorem tabS_size (s : ByteArray) (t : List Int) : (tabS s t).size = s.size := by
  unfold tabS
  rw [strOfNums_size]
  simp
theorem lineS_size (f : S35) : (lineS f).size ≤ f.f0.size + f.f1.size + 2 := by
  have h := trim_size (crlfS f.f1)
  have h2 := tabS_size f.f1 (tab2 13 32 10 32)
  unfold crlfS at h
  unfold lineS crlfS
  have z1 : (⟨#[58]⟩ : ByteArray).size = 1 := rfl
  have z2 : (⟨#[32]⟩ : ByteArray).size = 1 := rfl
  split
  · rw [ByteArray.size_append, z1]; omega
  · rw [ByteArray.size_append, ByteArray.size_append, ByteArray.size_append, z1, z2]; omega
theorem fieldL_length (f : S35) : (fieldL f).length ≤ 4 * (f.f0.size + f.f1.size) + 16 := by
  unfold fieldL
  split
  · have := foldL_length (lineS f).size (lineS f) (f.f0.size + 1)
    have := lineS_size f
    omega
  · simp

theorem keep_far {W w w' : World} {b : Nat} (h : Below W.heap.size w w') (hb : b < W.heap.size) {j : Nat} : w'.cell? ⟨b, j, none⟩ = w.cell? ⟨b, j, none⟩ := h.cell (p := ⟨b, j, none⟩) hb
theorem new_replacer_at (x0 x1 x2 x3 : ByteArray) (W : World) (b : Nat) (hb : b = W.heap.size) :
    Calls Tryz.prog 52 #[.slice (some ⟨b, 0, none⟩) 4 4] (W.alloc (.cells #[.string x0, .string x1, .string x2, .string x3] 9)) fun e w' => ∃ g, e = .returned (.pointer (some ⟨g, 0, none⟩)) ∧ NewRep W.heap.size w' g 0 x0 x1 x2 x3 ∧ Below W.heap.size W w' := by
  subst hb
  refine (new_replacer W.heap.size x0 x1 x2 x3 _ (by simp) (by simp) (by simp) (by simp)).mono ?_
  rintro e w' ⟨g, rfl, hr, hb⟩
  rw [World.size_alloc] at hr hb
  refine ⟨g, rfl, ?_, ((Below.refl _ _).alloc (Nat.le_refl _) _).trans (hb.mono (by omega))⟩
  obtain ⟨h1, h2, h3, h4, h5, h, cap, h6, h7⟩ := hr
  exact ⟨by omega, h2, h3, h4, h5, h, cap, by omega, h7⟩
theorem le_sum : ∀ {l : List Nat} {x : Nat}, x ∈ l → x ≤ l.sum
  | y :: l, x, h => by
    rw [List.sum_cons]
    rcases List.mem_cons.1 h with rfl | h
    · omega
    · have := le_sum h
      omega
theorem wsum_cons (x : S35) (l : List S35) : wsum (x :: l) = 4 * (x.f0.size + x.f1.size) + 16 + wsum l := by simp [wsum]
theorem wsum_len (l : List S35) : 16 * l.length ≤ wsum l := by
  induction l with
  | nil => simp
  | cons x l ih => rw [wsum_cons, List.length_cons]; omega
theorem wsum_at (l : List S35) (k : Nat) (h : k < l.length) : 4 * ((rd_T35 l (k : Int)).f0.size + (rd_T35 l (k : Int)).f1.size) + 16 ≤ wsum l := by
  have e : rd_T35 l (k : Int) = l[k] := by simp [rd_T35, List.getD, h]
  rw [e]
  unfold wsum
  have : 4 * (l[k].f0.size + l[k].f1.size) + 16 ∈ l.map (fun f => 4 * (f.f0.size + f.f1.size) + 16) := List.mem_map.2 ⟨l[k], List.getElem_mem h, rfl⟩
  exact le_sum this
theorem writeL_take (l : List S35) (k : Nat) (h : k < l.length) : writeL (l.take (k + 1)) = writeL (l.take k) ++ fieldL (rd_T35 l (k : Int)) := by
  have e : rd_T35 l (k : Int) = l[k] := by simp [rd_T35, List.getD, h]
  rw [e, List.take_succ_eq_append_getElem h]
  unfold writeL
  rw [List.flatMap_append]
  simp only [List.flatMap_cons, List.flatMap_nil, List.append_nil]
theorem writeL_length (l : List S35) : (writeL l).length ≤ wsum l := by
  induction l with
  | nil => simp [writeL, wsum]
  | cons x l ih =>
    have := fieldL_length x
    rw [wsum_cons]
    unfold writeL at *
    rw [List.flatMap_cons, List.length_append]
    omega
theorem wsum_take (l : List S35) (k : Nat) : wsum (l.take k) ≤ wsum l := by
  unfold wsum
  have : l = l.take k ++ l.drop k := (List.take_append_drop k l).symm
  conv => rhs; rw [this]
  rw [List.map_append, List.sum_append]
  omega

set_option maxHeartbeats 4000000 in
set_option maxRecDepth 100000 in
theorem write_calls (A0 : Option Addr) (c0 : Nat) (l0 : List S35) (w : World) (hr0 : Kd.C k35 w A0 l0.length l0) (hc0 : l0.length ≤ c0) (hs : wsum l0 ≤ 137438953472) :
    Calls Tryz.prog 21 #[.slice A0 l0.length c0] w fun e w' => e = .returned (.string (mkB (writeL l0))) ∧ Below w.heap.size w w' := by
  have hu35 := Tryz.underlying35
  have HR0 := Aside0.mk hr0
  clear hr0
  go_enter Tryz.func21, Tryz.ntmps21
  go_wp2_with fail
  obtain ⟨W, hW⟩ : ∃ W, W = w.alloc (Obj.cells #[Value.pointer none, Value.slice none 0 0] 66) := ⟨_, rfl⟩
  have hb0 : Bld w.heap.size w.heap.size [] W := by
    rw [hW]
    rcases Lib.fresh_isBuilder 66 5 w with h | h
    · exact .inl (Lib.BuilderAtF.of h)
    · exact .inr (Lib.BuilderAtF.of h)
  have hB0 : Below w.heap.size w W := by rw [hW]; exact (Below.refl _ _).alloc (Nat.le_refl _) _
  rw [← hW]
  clear hW
  go_loopw [10] (fun v wr => ∃ k : Nat, k ≤ l0.length ∧ v = .int .i64 k ∧ Aside0 (Bld w.heap.size w.heap.size (writeL (l0.take k)) wr) ∧ Aside0 (Below w.heap.size w wr)) (fun v _ => l0.length - (intOf v).toNat)
  case atStart => exact ⟨0, Nat.zero_le _, rfl, ⟨hb0⟩, ⟨hB0⟩⟩
  case round =>
    clear hb0 hB0
    obtain ⟨k, hk, rfl, hbl, hbel⟩ := hrel
    by_cases hlt : k < l0.length
    · obtain ⟨ad, rfl, hx0, hx1⟩ := at_T35 HR0.out (k : Int) (by omega) (by omega)
      obtain ⟨x, hx⟩ : ∃ x, x = rd_T35 l0 (k : Int) := ⟨_, rfl⟩
      rw [← hx] at hx0 hx1
      replace hx0 := (hbel.out.cell (World.block_lt_of_cell? w _ hx0)).trans hx0
      replace hx1 := (hbel.out.cell (World.block_lt_of_cell? w _ hx1)).trans hx1
      simp only [Int.toNat_natCast] at hx0 hx1
      have hsum := wsum_at l0 k hlt
      rw [← hx] at hsum
      have hlen := wsum_len l0
      have hout := Nat.le_trans (writeL_length (l0.take k)) (wsum_take l0 k)
      have hnext := writeL_take l0 k hlt
      rw [← hx] at hnext
      have HX := Lib.hid hx
      have HN := Lib.hid hnext
      clear hx hnext
      obtain ⟨kn, hkn⟩ := (isName_ev x.f0 (by omega)).rounds
      have HKN := Aside0.mk hkn
      clear hkn
      have hBsz := hbel.out.size
      obtain ⟨fb, hfb⟩ : ∃ fb, fb = wr.heap.size := ⟨_, rfl⟩
      obtain ⟨w1, hw1⟩ : ∃ w1, w1 = wr.alloc (.cells #[.string x.f0, .string x.f1] 35) := ⟨_, rfl⟩
      have hb1 : Below wr.heap.size wr w1 := by rw [hw1]; exact (Below.refl _ _).alloc (Nat.le_refl _) _
      have hc0' : w1.cell? ⟨fb, 0, none⟩ = some (.string x.f0) := by rw [hw1, hfb]; simp
      have hc1' : w1.cell? ⟨fb, 1, none⟩ = some (.string x.f1) := by rw [hw1, hfb]; simp
      have hlt1 : fb < w1.heap.size := by rw [hw1, hfb, World.size_alloc]; omega
      have HB1 := Aside0.mk hb1
      have HW1 := Aside0.mk hw1
      have HFB := Aside0.mk hfb
      clear hb1 hw1 hfb
      by_cases hnm : isNameB x.f0 = true
      · rw [hnm] at HKN
        have HNM := Lib.hid hnm
        clear hnm
        have hf1 : x.f1.size ≤ 1099511627776 := by omega
        obtain ⟨kt, hkt⟩ := (trim_ev (tabS x.f1 (tab2 13 32 10 32)) (by rw [tabS_size]; omega)).rounds
        have HT := Aside0.mk hkt
        clear hkt
        go_wp2_with fail
        rw [← HW1.out, ← HFB.out]
        refine (header_isName.calls kn _ _ _ HKN.out).mono ?_
        rintro e w2 ⟨rfl, ⟨n, rfl⟩⟩
        go_wp2_with fail
        go_region_held3 (fun w' => w'.cell? ⟨fb, 1, none⟩ = some (.string x.f1)) (first | go_keep | (exact pw_cell_below (by assumption) (by assumption)) | (exact (keep_far (by assumption) hlt1).trans (by assumption)))
          (first
            | (go_at_call 52; refine (new_replacer_at _ _ _ _ _ _ rfl).mono ?_; rintro e w3 ⟨g3, rfl, hg3, hb3⟩)
            | (go_at_call 53; refine (replace_bytes _ g3 13 32 10 32 _ _ hf1 hb3.size hg3).mono ?_; rintro e w4 ⟨rfl, hb4⟩)
            | (go_at_call 24; refine (text_Trim.calls kt _ _ _ HT.out).mono ?_; rintro e w5 ⟨rfl, ⟨n5, rfl⟩⟩))
        have hb4' : Below w1.heap.size w1 w4 := (pw_below_drewN (Below.refl _ _) _).trans (hb3.trans hb4)
        have hc04 := (keep_far hb4' hlt1 (j := 0)).trans hc0'
        have HB4 := Aside0.mk hb4'
        clear hb3 hb4 hb4' hg3
        obtain ⟨v, hv⟩ : ∃ v, v = trimS (tabS x.f1 (tab2 13 32 10 32)) := ⟨_, rfl⟩
        rw [← hv]
        have hvs : v.size ≤ x.f1.size := by rw [hv]; have := trim_size (tabS x.f1 (tab2 13 32 10 32)); rw [tabS_size] at this; exact this
        have HV := Lib.hid hv
        clear hv
        obtain ⟨line, hline⟩ : ∃ line, line = lineS x := ⟨_, rfl⟩
        have hlsz : line.size ≤ x.f0.size + x.f1.size + 2 := by rw [hline]; exact lineS_size x
        have HLINE := Lib.hid hline
        clear hline
        have hbld : Bld w.heap.size w.heap.size (writeL (l0.take k)) (w4.drewN n5) := ((hbl.out.keep HB1.out).keep HB4.out).keep (pw_below_drewN (Below.refl _ _) n5)
        have HBLD := Aside0.mk hbld
        clear hbld
        have hnsz : x.f0.size ≤ 200 := by
          have := HNM.out
          unfold isNameB at this
          simp at this
          exact this.1.2
        have hszz := HB1.out.size
        by_cases hz : v.size = 0
        · have hve : v.toList.isEmpty = true := by rw [toList_bl, List.isEmpty_iff_length_eq_zero, bl_length]; exact hz
          have hln : line = x.f0 ++ ⟨#[58]⟩ := by rw [HLINE.out]; unfold lineS crlfS; rw [← HV.out, if_pos hz]
          go_wp2_with fail
          rw [show ((x.f0.size : Int) + 1) = ((x.f0.size + 1 : Nat) : Int) from by omega, ← hln]
          refine (fold_calls w.heap.size w.heap.size (writeL (l0.take k)) line (x.f0.size + 1) _ HBLD.out (by omega) (by omega) (by have := HB4.out.size; show w.heap.size ≤ w4.heap.size; omega)).mono ?_
          rintro e w6 ⟨rfl, h6, k6⟩
          have H6 := Aside0.mk h6
          have K6 := Aside0.mk k6
          clear h6 k6
          go_wp2_with fail
          go_roundw
          case rel =>
            refine ⟨k + 1, by omega, by go_num, ⟨?_⟩, ⟨?_⟩⟩
            · rw [HN.out]
              have : fieldL x = foldL line.size line (x.f0.size + 1) := by unfold fieldL; rw [HNM.out, HLINE.out]; rfl
              rw [this]
              exact H6.out
            · exact (pw_below_drewN (hbel.out.trans ((HB1.out.mono hBsz).trans (HB4.out.mono (by omega)))) n5).trans K6.out.below
          case measure => simp [intOf]; omega
        · have hve : v.toList.isEmpty = false := by
            rw [toList_bl]
            cases h : bl v with
            | nil => exfalso; apply hz; rw [← bl_length, h]; rfl
            | cons _ _ => rfl
          have hln : line = (x.f0 ++ ⟨#[58]⟩) ++ (⟨#[32]⟩ ++ v) := by rw [HLINE.out]; unfold lineS crlfS; rw [← HV.out, if_neg hz]
          go_wp2_with fail
          rw [show ((x.f0.size : Int) + 1) = ((x.f0.size + 1 : Nat) : Int) from by omega, ← hln]
          refine (fold_calls w.heap.size w.heap.size (writeL (l0.take k)) line (x.f0.size + 1) _ HBLD.out (by omega) (by omega) (by have := HB4.out.size; show w.heap.size ≤ w4.heap.size; omega)).mono ?_
          rintro e w6 ⟨rfl, h6, k6⟩
          have H6 := Aside0.mk h6
          have K6 := Aside0.mk k6
          clear h6 k6
          go_wp2_with fail
          go_roundw
          case rel =>
            refine ⟨k + 1, by omega, by go_num, ⟨?_⟩, ⟨?_⟩⟩
            · rw [HN.out]
              have : fieldL x = foldL line.size line (x.f0.size + 1) := by unfold fieldL; rw [HNM.out, HLINE.out]; rfl
              rw [this]
              exact H6.out
            · exact (pw_below_drewN (hbel.out.trans ((HB1.out.mono hBsz).trans (HB4.out.mono (by omega)))) n5).trans K6.out.below
          case measure => simp [intOf]; omega
      · have hnm' : isNameB x.f0 = false := by simpa using hnm
        rw [hnm'] at HKN
        have HNM := Lib.hid hnm'
        clear hnm hnm'
        go_wp2_with fail
        rw [← HW1.out, ← HFB.out]
        refine (header_isName.calls kn _ _ _ HKN.out).mono ?_
        rintro e w2 ⟨rfl, ⟨n, rfl⟩⟩
        go_wp2_with fail
        go_roundw
        case rel =>
          refine ⟨k + 1, by omega, by go_num, ⟨?_⟩, ⟨?_⟩⟩
          · rw [HN.out]
            have : fieldL x = [] := by unfold fieldL; rw [HNM.out]; rfl
            rw [this, List.append_nil]
            exact (hbl.out.keep HB1.out).keep (pw_below_drewN (Below.refl _ _) n)
          · exact pw_below_drewN (hbel.out.trans (HB1.out.mono hBsz)) n
        case measure => simp [intOf]; omega
    · have hkk : k = l0.length := by omega
      subst hkk
      go_wp2_with fail
      refine (Tryz.Builder_String_any_k w.heap.size w.heap.size (writeL (l0.take l0.length)) wr hbl.out hbel.out.size).mono ?_
      rintro e w6 ⟨rfl, -, hb6, -⟩
      go_wp2_with fail
      go_ret
      exact ⟨rfl, hbel.out.trans hb6⟩

/-- The contract's function: header.Write. -/
def header_Write.f (l0 : List S35) : Option ByteArray := if wsum l0 ≤ 137438953472 then some (mkB (writeL l0)) else none
theorem header_Write.calls (A0 : Option Addr) (c0 : Nat) (l0 : List S35) (r : ByteArray) (w : World) (hr0 : Kd.C k35 w A0 l0.length l0) (hc0 : l0.length ≤ c0) (h : header_Write.f l0 = some r) :
    Calls Tryz.prog 21 #[.slice A0 l0.length c0] w fun e w' => e = .returned (.string r) ∧ Below w.heap.size w w' := by
  unfold header_Write.f at h
  by_cases hs : wsum l0 ≤ 137438953472
  · rw [if_pos hs] at h
    obtain rfl := Option.some.inj h
    exact write_calls A0 c0 l0 w hr0 hc0 hs
  · rw [if_neg hs] at h
    cases h
end Go.Proofs.YtieompfmhnpnaaaGreat.H
