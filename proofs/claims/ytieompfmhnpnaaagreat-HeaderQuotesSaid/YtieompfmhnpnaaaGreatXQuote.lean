/- Contracts by hand: header.Quote. -/
import Derived.Test.YtieompfmhnpnaaaGreatB0
import Derived.Test.YtieompfmhnpnaaaGreatB35
import Derived.Test.YtieompfmhnpnaaaGreatXFoldB
import Derived.Test.YtieompfmhnpnaaaGreatXWrite
import Derived.Test.YtieompfmhnpnaaaGreatXTok
import Derived.Test.YtieompfmhnpnaaaGreatXQa
import Derived.Deep.RegionHeld3
-- needs: header_isToken
namespace Go.Proofs.YtieompfmhnpnaaaGreat.H
open Go.RowKit Go.Proofs.YtieompfmhnpnaaaGreatW.PrintWords Go.Proofs.YtieompfmhnpnaaaGreatW.PrintLast Go.Proofs.YtieompfmhnpnaaaGreatW.PrintMore
set_option linter.unusedVariables false
set_option linter.unusedSimpArgs false

/-- What is written of a parameter. -/
def valL (v : ByteArray) : List UInt8 := if isTokenB v then bl v else [34] ++ bl (escS v) ++ [34]
def paramL (p : S25) : List UInt8 := if isTokenB p.f0 then ([59, 32] ++ bl p.f0 ++ [61]) ++ valL p.f1 else []
def quoteL (main : ByteArray) (l : List S25) : List UInt8 := bl main ++ l.flatMap paramL
/-- A bound on what is written. -/
def psum (l : List S25) : Nat := (l.map fun f => 4 * (f.f0.size + f.f1.size) + 16).sum
theorem escS_size (s : ByteArray) : (escS s).size ≤ 2 * s.size := by
  unfold escS
  rw [mkB_size, escL_flat]
  have := cntE_le (bl s)
  rw [bl_length] at *
  omega
theorem paramL_length (p : S25) : (paramL p).length ≤ 4 * (p.f0.size + p.f1.size) + 16 := by
  unfold paramL valL
  have := escS_size p.f1
  split
  · split
    · simp only [List.length_append, bl_length, List.length_cons, List.length_nil]; omega
    · simp only [List.length_append, bl_length, List.length_cons, List.length_nil]; omega
  · simp
theorem psum_cons (x : S25) (l : List S25) : psum (x :: l) = 4 * (x.f0.size + x.f1.size) + 16 + psum l := by simp [psum]
theorem psum_len (l : List S25) : 16 * l.length ≤ psum l := by
  induction l with
  | nil => simp
  | cons x l ih => rw [psum_cons, List.length_cons]; omega
theorem psum_at (l : List S25) (k : Nat) (h : k < l.length) : 4 * ((rd_T25 l (k : Int)).f0.size + (rd_T25 l (k : Int)).f1.size) + 16 ≤ psum l := by
  have e : rd_T25 l (k : Int) = l[k] := by simp [rd_T25, List.getD, h]
  rw [e]
  unfold psum
  have : 4 * (l[k].f0.size + l[k].f1.size) + 16 ∈ l.map (fun f => 4 * (f.f0.size + f.f1.size) + 16) := List.mem_map.2 ⟨l[k], List.getElem_mem h, rfl⟩
  exact le_sum this
theorem quoteL_take (m : ByteArray) (l : List S25) (k : Nat) (h : k < l.length) : quoteL m (l.take (k + 1)) = quoteL m (l.take k) ++ paramL (rd_T25 l (k : Int)) := by
  have e : rd_T25 l (k : Int) = l[k] := by simp [rd_T25, List.getD, h]
  rw [e, List.take_succ_eq_append_getElem h]
  unfold quoteL
  rw [List.flatMap_append]
  simp only [List.flatMap_cons, List.flatMap_nil, List.append_nil, List.append_assoc]
theorem quoteL_length (m : ByteArray) (l : List S25) : (quoteL m l).length ≤ m.size + psum l := by
  unfold quoteL
  rw [List.length_append, bl_length]
  have : (l.flatMap paramL).length ≤ psum l := by
    induction l with
    | nil => simp
    | cons x l ih =>
      have := paramL_length x
      rw [psum_cons, List.flatMap_cons, List.length_append]
      omega
  omega
theorem psum_take (l : List S25) (k : Nat) : psum (l.take k) ≤ psum l := by
  unfold psum
  have : l = l.take k ++ l.drop k := (List.take_append_drop k l).symm
  conv => rhs; rw [this]
  rw [List.map_append, List.sum_append]
  omega

theorem Bld.lt {B bb : Nat} {l : List UInt8} {a : World} (h : Bld B bb l a) : bb < a.heap.size := by
  rcases h with ⟨_, v, h2, _⟩ | ⟨_, v, h2, _⟩ <;> exact (Array.getElem?_eq_some_iff.1 h2).1
theorem sq_of {w : World} {fb : Nat} {a v : Value} (h : w.heap[fb]? = some (.cells #[a, v] 25 (0, 0))) : w.heap[fb]? = some (.cells #[a, v] 25 (0, 0)) ∧ w.cell? ⟨fb, 1, none⟩ = some v := ⟨h, by simp [World.cell?, h]⟩
theorem sqB {w w' : World} {B fb : Nat} {a v : Value} (hf : fb < B) (hb : Below B w w') (h : w.heap[fb]? = some (.cells #[a, v] 25 (0, 0)) ∧ w.cell? ⟨fb, 1, none⟩ = some v) : w'.heap[fb]? = some (.cells #[a, v] 25 (0, 0)) ∧ w'.cell? ⟨fb, 1, none⟩ = some v :=
  sq_of ((hb.block fb hf).trans h.1)
theorem sqK {w w' : World} {B bb fb : Nat} {a v : Value} (hne : fb ≠ bb) (hb : BKept B bb w w') (h : w.heap[fb]? = some (.cells #[a, v] 25 (0, 0)) ∧ w.cell? ⟨fb, 1, none⟩ = some v) : w'.heap[fb]? = some (.cells #[a, v] 25 (0, 0)) ∧ w'.cell? ⟨fb, 1, none⟩ = some v :=
  sq_of (hb.others fb _ h.1 (fun e => by injection e with e; exact hne e) (by intro c fz h; cases h))
theorem sqA {w : World} {fb : Nat} {a v : Value} (h : w.heap[fb]? = some (.cells #[a, v] 25 (0, 0)) ∧ w.cell? ⟨fb, 1, none⟩ = some v) (o : Obj) : (w.alloc o).heap[fb]? = some (.cells #[a, v] 25 (0, 0)) ∧ (w.alloc o).cell? ⟨fb, 1, none⟩ = some v :=
  sq_of ((Lib.alloc_old w o fb (Array.getElem?_eq_some_iff.1 h.1).1).trans h.1)
theorem sqD {w : World} {fb : Nat} {a v : Value} (h : w.heap[fb]? = some (.cells #[a, v] 25 (0, 0)) ∧ w.cell? ⟨fb, 1, none⟩ = some v) : w.drew.heap[fb]? = some (.cells #[a, v] 25 (0, 0)) ∧ w.drew.cell? ⟨fb, 1, none⟩ = some v := h

set_option maxHeartbeats 4000000 in
set_option maxRecDepth 100000 in
theorem quote_calls (m : ByteArray) (A0 : Option Addr) (c0 : Nat) (l0 : List S25) (w : World) (hr0 : Kd.C k25 w A0 l0.length l0) (hc0 : l0.length ≤ c0) (hs : m.size + psum l0 ≤ 137438953472) :
    Calls Tryz.prog 16 #[.string m, .slice A0 l0.length c0] w fun e w' => e = .returned (.string (mkB (quoteL m l0))) ∧ Below w.heap.size w w' := by
  have hu25 := Tryz.underlying25
  have HR0 := Aside0.mk hr0
  clear hr0
  go_enter Tryz.func16, Tryz.ntmps16
  go_wp2_with fail
  obtain ⟨W, hW⟩ : ∃ W, W = w.alloc (Obj.cells #[Value.pointer none, Value.slice none 0 0] 66) := ⟨_, rfl⟩
  have hb0 : Bld w.heap.size w.heap.size [] W := by
    rw [hW]
    rcases Lib.fresh_isBuilder 66 5 w with h | h
    · exact .inl (Lib.BuilderAtF.of h)
    · exact .inr (Lib.BuilderAtF.of h)
  have hB0 : Below w.heap.size w W := by rw [hW]; exact (Below.refl _ _).alloc (Nat.le_refl _) _
  rw [← hW]
  clear hW
  refine (wstr w.heap.size w.heap.size [] m W hb0 (by simp; omega) hB0.size).mono ?_
  rintro e w1 ⟨rfl, hb1, hk1⟩
  have hB1 := hB0.trans hk1.below
  have HB1 := Aside0.mk hb1
  clear hb0 hB0 hb1 hk1
  go_wp2_with fail
  go_loopw [12] (fun v wr => ∃ k : Nat, k ≤ l0.length ∧ v = .int .i64 k ∧ Aside0 (Bld w.heap.size w.heap.size (quoteL m (l0.take k)) wr) ∧ Aside0 (Below w.heap.size w wr)) (fun v _ => l0.length - (intOf v).toNat)
  case atStart => exact ⟨0, Nat.zero_le _, rfl, ⟨by simpa [quoteL, bl] using HB1.out⟩, ⟨hB1⟩⟩
  case round =>
    clear HB1 hB1
    obtain ⟨k, hk, rfl, hbl, hbel⟩ := hrel
    by_cases hlt : k < l0.length
    · obtain ⟨ad, rfl, hx0, hx1⟩ := at_T25 HR0.out (k : Int) (by omega) (by omega)
      obtain ⟨x, hx⟩ : ∃ x, x = rd_T25 l0 (k : Int) := ⟨_, rfl⟩
      rw [← hx] at hx0 hx1
      replace hx0 := (hbel.out.cell (World.block_lt_of_cell? w _ hx0)).trans hx0
      replace hx1 := (hbel.out.cell (World.block_lt_of_cell? w _ hx1)).trans hx1
      simp only [Int.toNat_natCast] at hx0 hx1
      have hsum := psum_at l0 k hlt
      rw [← hx] at hsum
      have hlen := psum_len l0
      have hout := quoteL_length m (l0.take k)
      have hout2 := psum_take l0 k
      have hnext := quoteL_take m l0 k hlt
      rw [← hx] at hnext
      have HX := Lib.hid hx
      have HN := Lib.hid hnext
      clear hx hnext
      obtain ⟨kn, hkn⟩ := (isToken_ev x.f0 (by omega)).rounds
      obtain ⟨kv, hkv⟩ := (isToken_ev x.f1 (by omega)).rounds
      have HKN := Aside0.mk hkn
      have HKV := Aside0.mk hkv
      clear hkn hkv
      have hBsz := hbel.out.size
      obtain ⟨fb, hfb⟩ : ∃ fb, fb = wr.heap.size := ⟨_, rfl⟩
      obtain ⟨w1, hw1⟩ : ∃ w1, w1 = wr.alloc (.cells #[.string x.f0, .string x.f1] 25) := ⟨_, rfl⟩
      have hb1 : Below wr.heap.size wr w1 := by rw [hw1]; exact (Below.refl _ _).alloc (Nat.le_refl _) _
      have hc0' : w1.cell? ⟨fb, 0, none⟩ = some (.string x.f0) := by rw [hw1, hfb]; simp
      have hc1' : w1.cell? ⟨fb, 1, none⟩ = some (.string x.f1) := by rw [hw1, hfb]; simp
      have hx25 : w1.heap[fb]? = some (.cells #[.string x.f0, .string x.f1] 25 (0, 0)) := by rw [hw1, hfb]; exact heap_alloc_new _ _
      have hlt1 : fb < w1.heap.size := by rw [hw1, hfb, World.size_alloc]; omega
      have HB1 := Aside0.mk hb1
      have HW1 := Aside0.mk hw1
      have HFB := Aside0.mk hfb
      have HX25 := Aside0.mk hx25
      clear hb1 hw1 hfb hx25
      by_cases hnm : isTokenB x.f0 = true
      · rw [hnm] at HKN
        have HNM := Lib.hid hnm
        clear hnm
        go_wp2_with fail
        rw [← HW1.out, ← HFB.out]
        refine (header_isToken.calls kn _ _ _ HKN.out).mono ?_
        rintro e w2 ⟨rfl, ⟨n, rfl⟩⟩
        go_wp2_with fail
        obtain ⟨hd, hhd⟩ : ∃ hd : ByteArray, (⟨#[59, 32]⟩ : ByteArray) ++ x.f0 ++ ⟨#[61]⟩ = hd := ⟨_, rfl⟩
        have hhs : hd.size = x.f0.size + 3 := by rw [← hhd, ByteArray.size_append, ByteArray.size_append, show (⟨#[59, 32]⟩ : ByteArray).size = 2 from rfl, show (⟨#[61]⟩ : ByteArray).size = 1 from rfl]; omega
        have hhb : hd.data.toList = [59, 32] ++ bl x.f0 ++ [61] := by
          rw [← hhd]
          show bl ((⟨#[59, 32]⟩ : ByteArray) ++ x.f0 ++ ⟨#[61]⟩) = _
          rw [bl_append, bl_append]
        rw [hhd]
        have HHB := Lib.hid hhb
        clear hhd hhb
        have hbld1 := (hbl.out.keep HB1.out).keep (pw_below_drewN (Below.refl _ _) n)
        refine (wstr w.heap.size w.heap.size _ hd _ hbld1 (by omega) (Nat.le_trans hBsz HB1.out.size)).mono ?_
        rintro e w3 ⟨rfl, hb3, hk3⟩
        have hnb : fb ≠ w.heap.size := by have := HFB.out; have := Bld.lt hbl.out; omega
        have hx3 : w3.heap[fb]? = some (.cells #[.string x.f0, .string x.f1] 25 (0, 0)) := hk3.others fb _ HX25.out (fun e => by injection e with e; have := HFB.out; have := Bld.lt hbl.out; omega) (by intro c fz h; cases h)
        have hs3 : fb < w3.heap.size := (Array.getElem?_eq_some_iff.1 hx3).1
        have c3 : w3.cell? ⟨fb, 1, none⟩ = some (.string x.f1) := by simp [World.cell?, hx3]
        have hbw3 : Below w.heap.size w w3 := (pw_below_drewN (hbel.out.trans (HB1.out.mono hBsz)) n).trans hk3.below
        rw [HHB.out] at hb3
        have hb3s := hbw3.size
        have HBW3 := Aside0.mk hbw3
        have HBL3 := Aside0.mk hb3
        clear hbw3 hb3 hk3 hbld1
        go_wp2_with fail
        refine (header_isToken.calls kv _ _ _ HKV.out).mono ?_
        rintro e w4 ⟨rfl, ⟨n4, rfl⟩⟩
        by_cases hv : isTokenB x.f1 = true
        · rw [hv]
          have HV := Lib.hid hv
          clear hv
          go_wp2_with fail
          refine (wstr w.heap.size w.heap.size _ x.f1 _ (HBL3.out.keep (pw_below_drewN (Below.refl _ _) n4)) (by simp; omega) hb3s).mono ?_
          rintro e w5 ⟨rfl, hb5, hk5⟩
          have HB5 := Aside0.mk hb5
          have HK5 := Aside0.mk hk5
          clear hb5 hk5
          go_wp2_with fail
          go_roundw
          case rel =>
            refine ⟨k + 1, by omega, by go_num, ⟨?_⟩, ⟨(pw_below_drewN HBW3.out n4).trans HK5.out.below⟩⟩
            rw [HN.out]
            have : paramL x = [59, 32] ++ bl x.f0 ++ [61] ++ bl x.f1 := by unfold paramL valL; rw [HNM.out, HV.out]; rfl
            rw [this, ← List.append_assoc]
            exact HB5.out
          case measure => simp [intOf]; omega
        · have hv' : isTokenB x.f1 = false := by simpa using hv
          rw [hv']
          have HV := Lib.hid hv'
          clear hv hv'
          go_wp2_with fail
          obtain ⟨W0, hW0⟩ : ∃ W0, W0 = w3.drewN n4 := ⟨_, rfl⟩
          have hbW := HBL3.out.keep (pw_below_drewN (Below.refl w3.heap.size w3) n4)
          have hlW : fb < W0.heap.size := by rw [hW0]; exact hs3
          have hsW : w.heap.size ≤ W0.heap.size := by rw [hW0]; exact hb3s
          have hS : W0.heap[fb]? = some (.cells #[.string x.f0, .string x.f1] 25 (0, 0)) ∧ W0.cell? ⟨fb, 1, none⟩ = some (.string x.f1) := by rw [hW0]; exact sq_of hx3
          have z34 : (⟨#[34]⟩ : ByteArray).size = 1 := rfl
          rw [← hW0] at hbW ⊢
          have HBW := Aside0.mk hbW
          have HW0 := Aside0.mk hW0
          clear hbW hW0 c3
          have hesz := escS_size x.f1
          obtain ⟨es, hes⟩ : ∃ es, escS x.f1 = es := ⟨_, rfl⟩
          rw [hes] at hesz
          have hf1 : (9223372036854775807 < 1 + es.size) = False := eq_false (by omega)
          have hf2 : (9223372036854775807 < 1 + es.size + 1) = False := eq_false (by omega)
          go_region_held3 (fun w' => w'.heap[fb]? = some (.cells #[.string x.f0, .string x.f1] 25 (0, 0)) ∧ w'.cell? ⟨fb, 1, none⟩ = some (.string x.f1)) (first | (exact sqD hS) | (exact sqD (sqA hS _)) | (exact sqA (by assumption) _) | (exact sqB hlW (by assumption) (sqD hS)) | (exact sqB hlW (by assumption) (by assumption)) | (exact sqK hnb (by assumption) (by assumption)) | go_keep)
            (first
              | (go_at_call 52; refine (new_replacer_at _ _ _ _ W0.drew _ rfl).mono ?_; rintro e w5 ⟨g5, rfl, hg5, hb5⟩)
              | (go_at_call 53; refine (replace_strings _ g5 _ _ (by omega) hb5.size hg5).mono ?_; rintro e w6 ⟨rfl, hb6⟩; rw [hes])
              | (go_at_call 51; refine (wstr w.heap.size w.heap.size _ _ _ (Bld.keep (a := W0.drew) HBW.out (hb5.trans hb6)) (by simp; omega) (by have := (hb5.trans hb6).size; exact Nat.le_trans hsW this)).mono ?_; rintro e w7 ⟨rfl, hb7, hk7⟩))
          have hcat : ((⟨#[34]⟩ : ByteArray) ++ es ++ ⟨#[34]⟩).data.toList = [34] ++ bl (escS x.f1) ++ [34] := by
            rw [hes]
            show bl ((⟨#[34]⟩ : ByteArray) ++ es ++ ⟨#[34]⟩) = _
            rw [bl_append, bl_append]
          rw [hcat] at hb7
          have hbel7 : Below w.heap.size w w7 := by
            have h1 : Below w.heap.size w W0 := by rw [HW0.out]; exact pw_below_drewN HBW3.out n4
            exact (Below.trans (b := W0.drew) h1.drew ((hb5.trans hb6).mono hsW)).trans hk7.below
          have HB7 := Aside0.mk hb7
          have HBEL7 := Aside0.mk hbel7
          clear hb5 hb6 hb7 hk7 hbel7 hcat hg5 hf1 hf2
          go_wp2_with fail
          go_roundw
          case rel =>
            refine ⟨k + 1, by omega, by go_num, ⟨?_⟩, ⟨HBEL7.out⟩⟩
            rw [HN.out]
            have : paramL x = [59, 32] ++ bl x.f0 ++ [61] ++ ([34] ++ bl (escS x.f1) ++ [34]) := by unfold paramL valL; rw [HNM.out, HV.out]; rfl
            rw [this, ← List.append_assoc]
            exact HB7.out
          case measure => simp [intOf]; omega
      · have hnm' : isTokenB x.f0 = false := by simpa using hnm
        rw [hnm'] at HKN
        have HNM := Lib.hid hnm'
        clear hnm hnm'
        go_wp2_with fail
        rw [← HW1.out, ← HFB.out]
        refine (header_isToken.calls kn _ _ _ HKN.out).mono ?_
        rintro e w2 ⟨rfl, ⟨n, rfl⟩⟩
        go_wp2_with fail
        go_roundw
        case rel =>
          refine ⟨k + 1, by omega, by go_num, ⟨?_⟩, ⟨?_⟩⟩
          · rw [HN.out]
            have : paramL x = [] := by unfold paramL; rw [HNM.out]; rfl
            rw [this, List.append_nil]
            exact (hbl.out.keep HB1.out).keep (pw_below_drewN (Below.refl _ _) n)
          · exact pw_below_drewN (hbel.out.trans (HB1.out.mono hBsz)) n
        case measure => simp [intOf]; omega
    · have hkk : k = l0.length := by omega
      subst hkk
      rw [List.take_length] at hbl
      go_wp2_with fail
      refine (Tryz.Builder_String_any_k w.heap.size w.heap.size (quoteL m l0) wr hbl.out hbel.out.size).mono ?_
      rintro e w6 ⟨rfl, -, hb6, -⟩
      go_wp2_with fail
      go_ret
      exact ⟨rfl, hbel.out.trans hb6⟩

/-- The contract's function: header.Quote. -/
def header_Quote.f (m : ByteArray) (l0 : List S25) : Option ByteArray := if m.size + psum l0 ≤ 137438953472 then some (mkB (quoteL m l0)) else none
theorem header_Quote.calls (m : ByteArray) (A0 : Option Addr) (c0 : Nat) (l0 : List S25) (r : ByteArray) (w : World) (hr0 : Kd.C k25 w A0 l0.length l0) (hc0 : l0.length ≤ c0) (h : header_Quote.f m l0 = some r) :
    Calls Tryz.prog 16 #[.string m, .slice A0 l0.length c0] w fun e w' => e = .returned (.string r) ∧ Below w.heap.size w w' := by
  unfold header_Quote.f at h
  by_cases hs : m.size + psum l0 ≤ 137438953472
  · rw [if_pos hs] at h
    obtain rfl := Option.some.inj h
    exact quote_calls m A0 c0 l0 w hr0 hc0 hs
  · rw [if_neg hs] at h
    cases h
end Go.Proofs.YtieompfmhnpnaaaGreat.H
