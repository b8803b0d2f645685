/- The law HeaderParams: whatever the input, it answers true, and each argument reads as it read. No condition. -/
import Derived.Test.YtieompfmhnpnaaaGreatKHp4
import Derived.Deep.SlicePairs
import Derived.SizedLaws
import Derived.ChangeArms
import Derived.Carry
import Derived.Test.YtieompfmhnpnaaaGreatRows
import Derived.WalkKit
import Derived.ProofKit
import Derived.OpenShut
import Derived.ShutString
import Derived.ChangeOld
import Derived.Below
section
namespace Go.Proofs.YtieompfmhnpnaaaGreat.H
open Go.RowKit Go.Proofs.YtieompfmhnpnaaaGreatW.PrintWords Go.Proofs.YtieompfmhnpnaaaGreatW.PrintLast Go.Proofs.YtieompfmhnpnaaaGreatW.PrintMore
set_option linter.unusedVariables false
set_option linter.unusedSimpArgs false
theorem refwhite_at (c : UInt8) : missiveref01_White.f (c.toNat : Int) = some (wsB c) := white_at c
theorem reftrim_l1 (s : ByteArray) (hs : s.size ≤ 1099511627776) (i : Nat) : ∀ (n j : Nat), i ≤ j → j ≤ s.size → j - i = n →
    Ev (fun k => missiveref01_Trim.l1 k s (i : Int) (j : Int)) (mkB (rtrim (((bl s).take j).drop i)))
  | 0, j, hi, hj, hn => by
    obtain rfl : i = j := by omega
    refine Ev.step (fun k => by simp only [missiveref01_Trim.l1]; rfl) ?_
    refine ev_no (by omega) ?_
    refine ev_yes (by omega) ?_
    refine ev_yes (by omega) ?_
    refine ev_yes (by omega) ?_
    have : ((bl s).take i).drop i = [] := by simp
    rw [this, rtrim_nil]
    refine ev_done ?_
    apply bl_inj
    rw [bl_extract]
    simp
  | n + 1, j, hi, hj, hn => by
    have hlt : i < j := by omega
    have hw := wrap_down j (by omega) (by omega)
    refine Ev.step (fun k => by simp only [missiveref01_Trim.l1]; rfl) ?_
    have h1 : (i : Int) < (j : Int) := by omega
    have h2 : 0 ≤ ((j - 1 : Nat) : Int) := by omega
    have h3 : ((j - 1 : Nat) : Int) < (s.size : Int) := by omega
    have hb := bt_byteAt s (j - 1) (by omega)
    have ht := take_byteAt s (j - 1) (by omega)
    rw [show j - 1 + 1 = j from by omega] at ht
    have hd : ((bl s).take j).drop i = ((bl s).take (j - 1)).drop i ++ [byteAt s (j - 1)] := by
      rw [ht, List.drop_append_of_le_length (by rw [List.length_take, bl_length]; omega)]
    refine ev_yes h1 ?_
    simp only [hw]
    refine ev_yes h2 (ev_yes h3 ?_)
    simp only [hb, refwhite_at, Option.bind_some]
    rw [hd, rtrim_snoc]
    by_cases hws : wsB (byteAt s (j - 1)) = true
    · rw [hws]
      exact ev_yes rfl (reftrim_l1 s hs i n (j - 1) (by omega) (by omega) (by omega))
    · have hws' : wsB (byteAt s (j - 1)) = false := by simpa using hws
      rw [hws']
      refine ev_no (by decide) ?_
      refine ev_yes (by omega) (ev_yes (by omega) (ev_yes (by omega) ?_))
      refine ev_done ?_
      apply bl_inj
      rw [bl_extract, if_neg (by decide), bl_mkB, ← hd]
      simp
theorem reftrim_l0 (s : ByteArray) (hs : s.size ≤ 1099511627776) : ∀ (n i : Nat), i + n = s.size →
    Ev (fun k => missiveref01_Trim.l0 k s (i : Int)) (mkB (trimL ((bl s).drop i)))
  | 0, i, hi => by
    have hl := bl_length s
    refine Ev.step (fun k => by simp only [missiveref01_Trim.l0]; rfl) ?_
    refine ev_no (by omega) ?_
    refine Ev.step (fun k => by simp only [missiveref01_Trim.j1]; rfl) ?_
    have := reftrim_l1 s hs i 0 s.size (by omega) (by omega) (by omega)
    have e : (bl s).drop i = [] := List.drop_of_length_le (by omega)
    rw [e]
    rw [List.take_of_length_le (by omega), e] at this
    exact this
  | n + 1, i, hi => by
    have hl := bl_length s
    refine Ev.step (fun k => by simp only [missiveref01_Trim.l0]; rfl) ?_
    have hb := bt_byteAt s i (by omega)
    refine ev_yes (by omega) ?_
    refine ev_yes (by omega) ?_
    simp only [hb, refwhite_at, Option.bind_some]
    rw [drop_byteAt s i (by omega)]
    by_cases hws : wsB (byteAt s i) = true
    · simp only [hws, if_true]
      have e : trimL (byteAt s i :: (bl s).drop (i + 1)) = trimL ((bl s).drop (i + 1)) := by
        unfold trimL
        rw [List.dropWhile_cons_of_pos hws]
      rw [e, wrap_up i (by omega)]
      exact reftrim_l0 s hs n (i + 1) (by omega)
    · simp only [hws, if_false]
      refine Ev.step (fun k => by simp only [missiveref01_Trim.j1]; rfl) ?_
      have := reftrim_l1 s hs i (s.size - i) s.size (by omega) (by omega) (by omega)
      rw [List.take_of_length_le (by omega), drop_byteAt s i (by omega)] at this
      unfold trimL
      rw [List.dropWhile_cons_of_neg hws]
      exact this
theorem reftrim_ev (s : ByteArray) (hs : s.size ≤ 1099511627776) : Ev (fun k => missiveref01_Trim.f k s) (trimS s) := by
  have := reftrim_l0 s hs s.size 0 (by omega)
  simpa [missiveref01_Trim.f, trimS] using this
theorem not_byte {c n : UInt8} (h : ¬ c = n) : ¬ ((c.toNat : Int) = (n.toNat : Int)) := fun e => h (by rw [← UInt8.toNat_inj]; omega)
def qEnd (s : ByteArray) : Nat → Nat → Nat
  | 0, _ => s.size
  | k + 1, i => if i < s.size then (if byteAt s i = 34 then i + 1 else if byteAt s i = 92 then qEnd s k (i + 2) else qEnd s k (i + 1)) else s.size
theorem qEnd_out (s : ByteArray) (k i : Nat) (h : s.size ≤ i) : qEnd s k i = s.size := by
  cases k with
  | zero => rfl
  | succ k => rw [qEnd, if_neg (by omega)]
theorem qEnd_le (s : ByteArray) : ∀ k i, qEnd s k i ≤ s.size
  | 0, i => Nat.le_refl _
  | k + 1, i => by
    rw [qEnd]
    have h1 := qEnd_le s k (i + 2)
    have h2 := qEnd_le s k (i + 1)
    split
    · split
      · omega
      · split <;> omega
    · omega
theorem qEnd_ge (s : ByteArray) : ∀ k i, i ≤ s.size → i ≤ qEnd s k i
  | 0, i, h => h
  | k + 1, i, h => by
    rw [qEnd]
    split
    · split
      · omega
      · split
        · by_cases h2 : i + 2 ≤ s.size
          · have := qEnd_ge s k (i + 2) h2
            omega
          · rw [qEnd_out s k (i + 2) (by omega)]; exact h
        · have := qEnd_ge s k (i + 1) (by omega)
          omega
    · exact h
theorem quoted_l0 (s : ByteArray) (hs : s.size ≤ 1099511627776) : ∀ (n i : Nat), s.size ≤ i + n → i ≤ s.size + 1 →
    Ev (fun k => missiveref09_quoted.l0 k s (i : Int)) ((qEnd s n i : Nat) : Int)
  | 0, i, h, hi => by
    refine Ev.step (fun k => by simp only [missiveref09_quoted.l0]; rfl) ?_
    exact ev_no (by omega) (Ev.now _)
  | n + 1, i, h, hi => by
    refine Ev.step (fun k => by simp only [missiveref09_quoted.l0]; rfl) ?_
    rw [qEnd]
    by_cases hlt : i < s.size
    · have hb := bt_byteAt s i hlt
      refine ev_yes (by omega) ?_
      refine ev_yes (by omega) ?_
      rw [if_pos hlt, hb, wrap_up i (by omega), wrap_up (i + 1) (by omega)]
      by_cases h1 : byteAt s i = 34
      · rw [if_pos h1]
        exact ev_yes (by rw [h1]; rfl) (Ev.now _)
      · rw [if_neg h1]
        refine ev_no (not_byte h1) ?_
        by_cases h2 : byteAt s i = 92
        · rw [if_pos h2]
          exact ev_yes (by rw [h2]; rfl) (quoted_l0 s hs n (i + 2) (by omega) (by omega))
        · rw [if_neg h2]
          exact ev_no (not_byte h2) (quoted_l0 s hs n (i + 1) (by omega) (by omega))
    · rw [if_neg hlt]
      exact ev_no (by omega) (Ev.now _)
theorem quoted_ev (s : ByteArray) (hs : s.size ≤ 1099511627776) (n i : Nat) (h : s.size ≤ i + 1 + n) (hi : i ≤ s.size) : Ev (fun k => missiveref09_quoted.f k s (i : Int)) ((qEnd s n (i + 1) : Nat) : Int) := by
  unfold missiveref09_quoted.f
  rw [wrap_up i (by omega)]
  exact quoted_l0 s hs n (i + 1) h (by omega)
theorem pieces_q (s : ByteArray) (fr : Nat) : ∀ (n i k : Nat), s.size ≤ i + n → s.size ≤ i + k → piecesAt s k fr true i = piecesAt s k fr false (qEnd s n i)
  | 0, i, k, h, hk => by rw [piecesAt_end s k fr i true (by omega), qEnd_out s 0 i (by omega), piecesAt_end s k fr _ false (Nat.le_refl _)]
  | n + 1, i, k, h, hk => by
    by_cases hlt : i < s.size
    · obtain ⟨k, rfl⟩ : ∃ m, k = m + 1 := ⟨k - 1, by omega⟩
      rw [qEnd, if_pos hlt]
      conv => lhs; rw [piecesAt, if_pos hlt]
      by_cases h1 : byteAt s i = 34
      · rw [if_neg (fun e => by rw [h1] at e; exact absurd e.1 (by decide)), if_pos h1, if_pos h1]
        exact pieces_fuel s _ _ _ _ _ (by omega) (by omega)
      · rw [if_neg h1]
        by_cases h2 : byteAt s i = 92
        · rw [if_pos ⟨h2, rfl⟩, if_neg h1, if_pos h2, pieces_q s fr n (i + 2) k (by omega) (by omega)]
          by_cases h3 : i + 2 ≤ s.size
          · have := qEnd_ge s n (i + 2) h3
            exact pieces_fuel s _ _ _ _ _ (by omega) (by omega)
          · rw [qEnd_out s n (i + 2) (by omega)]
            exact pieces_fuel s _ _ _ _ _ (by omega) (by omega)
        · rw [if_neg (fun e => h2 e.1), if_neg h1, if_neg (fun e => by cases e.2), if_neg h2, pieces_q s fr n (i + 1) k (by omega) (by omega)]
          have := qEnd_ge s n (i + 1) (by omega)
          exact pieces_fuel s _ _ _ _ _ (by omega) (by omega)
    · rw [piecesAt_end s k fr i true (by omega), qEnd_out s _ i (by omega), piecesAt_end s k fr _ false (Nat.le_refl _)]
theorem refpieces_l0 (s : ByteArray) (hs : s.size ≤ 1099511627776) : ∀ (n i fr : Nat) (acc : List ByteArray) (K : Nat), s.size ≤ i + n → i ≤ s.size → fr ≤ i → acc.length ≤ i → s.size ≤ i + K →
    Ev (fun k => missiveref09_Pieces.l0 k s acc (fr : Int) (i : Int)) (acc ++ piecesAt s K fr false i)
  | 0, i, fr, acc, K, h, hi, hf, ha, hK => by
    refine Ev.step (fun k => by simp only [missiveref09_Pieces.l0]; rfl) ?_
    refine ev_no (by omega) ?_
    refine ev_yes (by omega) (ev_yes (by omega) (ev_yes (by omega) (ev_done ?_)))
    rw [piecesAt_end s K fr i false (by omega)]
    rfl
  | n + 1, i, fr, acc, K, h, hi, hf, ha, hK => by
    refine Ev.step (fun k => by simp only [missiveref09_Pieces.l0]; rfl) ?_
    by_cases hlt : i < s.size
    · obtain ⟨K, rfl⟩ : ∃ m, K = m + 1 := ⟨K - 1, by omega⟩
      have hb := bt_byteAt s i hlt
      refine ev_yes (by omega) (ev_yes (by omega) ?_)
      rw [hb, piecesAt, if_pos hlt, if_neg (fun e => by cases e.2), wrap_up i (by omega)]
      by_cases h1 : byteAt s i = 34
      · rw [if_pos h1]
        refine ev_yes (by rw [h1]; rfl) ?_
        refine Ev.bind (quoted_ev s hs n i (by omega) hi) ?_
        have g1 := qEnd_ge s n (i + 1) (by omega)
        have g2 := qEnd_le s n (i + 1)
        rw [Bool.not_false, pieces_q s fr n (i + 1) K (by omega) (by omega)]
        exact refpieces_l0 s hs n _ fr acc K (by omega) g2 (by omega) (by omega) (by omega)
      · rw [if_neg h1]
        refine ev_no (not_byte h1) ?_
        by_cases h2 : byteAt s i = 59
        · rw [if_pos ⟨h2, rfl⟩]
          refine ev_yes (by rw [h2]; rfl) ?_
          refine ev_yes (by omega) (ev_yes (by omega) (ev_yes (by omega) (ev_yes (by omega) ?_)))
          have ih := refpieces_l0 s hs n (i + 1) (i + 1) (acc ++ [s.extract fr i]) K (by omega) (by omega) (by omega) (by simp; omega) (by omega)
          rw [List.append_assoc] at ih
          exact ih
        · rw [if_neg (fun e => h2 e.1)]
          refine ev_no (not_byte h2) ?_
          exact refpieces_l0 s hs n (i + 1) fr acc K (by omega) (by omega) (by omega) (by omega) (by omega)
    · refine ev_no (by omega) ?_
      refine ev_yes (by omega) (ev_yes (by omega) (ev_yes (by omega) (ev_done ?_)))
      rw [piecesAt_end s K fr i false (by omega)]
      rfl
theorem refpieces_ev (s : ByteArray) (hs : s.size ≤ 1099511627776) : Ev (fun k => missiveref09_Pieces.f k s) (piecesOf s) := by
  unfold missiveref09_Pieces.f piecesOf
  have := refpieces_l0 s hs s.size 0 0 [] (s.size + 1) (by omega) (by omega) (by omega) (by simp) (by omega)
  simpa using this
theorem ext_one (s : ByteArray) (i : Nat) (h : i < s.size) : s.extract i (i + 1) = mkB [byteAt s i] := by
  apply bl_inj
  rw [bl_extract, take_byteAt s i h, List.drop_append_of_le_length (by rw [List.length_take, bl_length]; omega), List.drop_of_length_le (by rw [List.length_take]; omega), bl_mkB, List.nil_append]
theorem mkB_app (a b : List UInt8) : mkB a ++ mkB b = mkB (a ++ b) := by apply bl_inj; rw [bl_append]
theorem mkB_str (a : List UInt8) (s : ByteArray) : mkB a ++ s = mkB (a ++ bl s) := by apply bl_inj; rw [bl_append]
def SameV (r v : ByteArray × Bool) : Prop := r.2 = v.2 ∧ (r.2 = true → r.1 = v.1)
def RefV (s : ByteArray) (n : Nat) : Prop := ∀ (i : Nat) (acc : List UInt8), i + n = s.size → acc.length ≤ i →
    ∃ r, Ev (fun k => missiveref09_value.l0 k s (mkB acc) (i : Int)) r ∧ SameV r (unqB (unqL ((bl s).drop i) acc))
theorem refvalue_0 (s : ByteArray) : RefV s 0 := fun i acc hi ha => by
    have hl := bl_length s
    refine ⟨(⟨#[]⟩, false), ?_, ?_⟩
    · refine Ev.step (fun k => by simp only [missiveref09_value.l0]; rfl) ?_
      exact ev_no (by omega) (Ev.now _)
    · rw [List.drop_of_length_le (by omega), unqL]
      exact ⟨rfl, fun h => by cases h⟩
theorem refvalue_1a (s : ByteArray) (hs : s.size ≤ 1099511627776) (i : Nat) (acc : List UInt8) (hi : i + 1 = s.size) (h1 : byteAt s i = 34) :
    Ev (fun k => missiveref09_value.l0 k s (mkB acc) (i : Int)) (mkB acc, true) := by
  have hb := bt_byteAt s i (by omega)
  refine Ev.step (fun k => by simp only [missiveref09_value.l0]; rfl) ?_
  rw [hb]
  refine ev_yes (by omega) (ev_yes (by omega) (ev_yes (by rw [h1]; rfl) (ev_done ?_)))
  rw [wrap_down s.size (by omega) (by omega)]
  have : ((i : Int) == ((s.size - 1 : Nat) : Int)) = true := by rw [beq_iff_eq]; omega
  rw [this]
theorem refvalue_1b (s : ByteArray) (hs : s.size ≤ 1099511627776) (i : Nat) (acc : List UInt8) (hi : i + 1 = s.size) (ha : acc.length ≤ i) (h1 : ¬ byteAt s i = 34) (r : ByteArray × Bool)
    (hr : Ev (fun k => missiveref09_value.l0 k s (mkB (acc ++ [byteAt s i])) ((i + 1 : Nat) : Int)) r) :
    Ev (fun k => missiveref09_value.l0 k s (mkB acc) (i : Int)) r := by
  have hb := bt_byteAt s i (by omega)
  have hx := ext_one s i (by omega)
  have hsz : (mkB acc).size = acc.length := mkB_size acc
  have hsz1 : (mkB [byteAt s i]).size = 1 := mkB_size _
  refine Ev.step (fun k => by simp only [missiveref09_value.l0]; rfl) ?_
  rw [hb, wrap_up i (by omega), wrap_up (i + 1) (by omega), Int.toNat_natCast, Int.toNat_natCast, Int.toNat_natCast, hx, mkB_app, hsz, hsz1]
  refine ev_yes (by omega) (ev_yes (by omega) (ev_no (not_byte h1) ?_))
  by_cases h2 : byteAt s i = 92
  · refine ev_yes (by rw [h2]; rfl) (ev_no (by omega) ?_)
    exact ev_yes (by omega) (ev_yes (by omega) (ev_yes (by omega) hr))
  · refine ev_no (not_byte h2) ?_
    exact ev_yes (by omega) (ev_yes (by omega) (ev_yes (by omega) hr))
theorem refvalue_1 (s : ByteArray) (hs : s.size ≤ 1099511627776) (ih : RefV s 0) : RefV s 1 := fun i acc hi ha => by
  have hl := bl_length s
  obtain ⟨r, hr, hv⟩ := ih (i + 1) (acc ++ [byteAt s i]) (by omega) (by simp; omega)
  rw [drop_byteAt s i (by omega), List.drop_of_length_le (by omega)]
  have e0 : unqL [] (acc ++ [byteAt s i]) = ([], false) := by rw [unqL]
  rw [List.drop_of_length_le (by omega), e0] at hv
  by_cases h1 : byteAt s i = 34
  · refine ⟨(mkB acc, true), refvalue_1a s hs i acc hi h1, ?_⟩
    unfold unqL
    rw [if_pos h1]
    exact ⟨rfl, fun _ => rfl⟩
  · refine ⟨r, refvalue_1b s hs i acc hi ha h1 r hr, ?_⟩
    unfold unqL
    rw [if_neg h1]
    exact hv
theorem refvalue_2 (s : ByteArray) (hs : s.size ≤ 1099511627776) (n : Nat) (ih0 : RefV s n) (ih1 : RefV s (n + 1)) : RefV s (n + 2) := fun i acc hi ha => by
    have hl := bl_length s
    have hb := bt_byteAt s i (by omega)
    have hx := ext_one s i (by omega)
    have hx2 := ext_one s (i + 1) (by omega)
    have hsz : (mkB acc).size = acc.length := mkB_size acc
    have hsz1 : (mkB [byteAt s i]).size = 1 := mkB_size _
    have hsz2 : (mkB [byteAt s (i + 1)]).size = 1 := mkB_size _
    rw [drop_byteAt s i (by omega), drop_byteAt s (i + 1) (by omega)]
    by_cases h1 : byteAt s i = 34
    · refine ⟨(mkB acc, false), ?_, ?_⟩
      · refine Ev.step (fun k => by simp only [missiveref09_value.l0]; rfl) ?_
        rw [hb]
        refine ev_yes (by omega) (ev_yes (by omega) (ev_yes (by rw [h1]; rfl) (ev_done ?_)))
        rw [wrap_down s.size (by omega) (by omega)]
        have : ((i : Int) == ((s.size - 1 : Nat) : Int)) = false := by rw [beq_eq_false_iff_ne]; omega
        rw [this]
      · unfold unqL
        rw [if_pos h1]
        exact ⟨rfl, fun h => by cases h⟩
    · by_cases h2 : byteAt s i = 92
      · obtain ⟨r, hr, hv⟩ := ih0 (i + 1 + 1) (acc ++ [byteAt s (i + 1)]) (by omega) (by simp; omega)
        refine ⟨r, ?_, ?_⟩
        · refine Ev.step (fun k => by simp only [missiveref09_value.l0]; rfl) ?_
          rw [hb, wrap_up i (by omega), wrap_up (i + 1) (by omega), Int.toNat_natCast, Int.toNat_natCast, Int.toNat_natCast, hx2, mkB_app, hsz, hsz2]
          refine ev_yes (by omega) (ev_yes (by omega) (ev_no (not_byte h1) (ev_yes (by rw [h2]; rfl) (ev_yes (by omega) ?_))))
          exact ev_yes (by omega) (ev_yes (by omega) (ev_yes (by omega) (ev_yes (by omega) hr)))
        · rw [unqL, if_neg h1, if_pos h2]
          exact hv
      · obtain ⟨r, hr, hv⟩ := ih1 (i + 1) (acc ++ [byteAt s i]) (by omega) (by simp; omega)
        refine ⟨r, ?_, ?_⟩
        · refine Ev.step (fun k => by simp only [missiveref09_value.l0]; rfl) ?_
          rw [hb, wrap_up i (by omega), wrap_up (i + 1) (by omega), Int.toNat_natCast, Int.toNat_natCast, Int.toNat_natCast, hx, mkB_app, hsz, hsz1]
          refine ev_yes (by omega) (ev_yes (by omega) (ev_no (not_byte h1) (ev_no (not_byte h2) ?_)))
          exact ev_yes (by omega) (ev_yes (by omega) (ev_yes (by omega) hr))
        · rw [unqL, if_neg h1, if_neg h2, ← drop_byteAt s (i + 1) (by omega)]
          exact hv
theorem refvalue_both (s : ByteArray) (hs : s.size ≤ 1099511627776) : ∀ n, RefV s n ∧ RefV s (n + 1)
  | 0 => ⟨refvalue_0 s, refvalue_1 s hs (refvalue_0 s)⟩
  | n + 1 => ⟨(refvalue_both s hs n).2, refvalue_2 s hs n (refvalue_both s hs n).1 (refvalue_both s hs n).2⟩
theorem refvalue_l0 (s : ByteArray) (hs : s.size ≤ 1099511627776) (n i : Nat) (acc : List UInt8) (hi : i + n = s.size) (ha : acc.length ≤ i) :
    ∃ r, Ev (fun k => missiveref09_value.l0 k s (mkB acc) (i : Int)) r ∧ SameV r (unqB (unqL ((bl s).drop i) acc)) := (refvalue_both s hs n).1 i acc hi ha
theorem refvalue_ev (s : ByteArray) (hs : s.size ≤ 1099511627776) : ∃ r, Ev (fun k => missiveref09_value.f k s) r ∧ SameV r (valueS s) := by
  unfold missiveref09_value.f valueS
  have hl := bl_length s
  by_cases h0 : bl s = []
  · refine ⟨(⟨#[]⟩, false), ev_yes (by rw [toList_bl, h0]) (Ev.now _), ?_⟩
    rw [h0]
    exact ⟨rfl, fun h => by cases h⟩
  · have hpos : 0 < s.size := by
      rw [← hl]
      exact List.length_pos_iff.2 h0
    have hd : bl s = byteAt s 0 :: (bl s).drop 1 := drop_byteAt s 0 hpos
    have hb := bt_byteAt s 0 hpos
    have hh : (bl s).head? = some (byteAt s 0) := by rw [hd]; rfl
    rw [hh]
    by_cases h1 : byteAt s 0 = 34
    · obtain ⟨r, hr, hv⟩ := refvalue_l0 s hs (s.size - 1) 1 [] (by omega) (by simp)
      refine ⟨r, ?_, ?_⟩
      · refine ev_no (by rw [toList_bl]; exact h0) (ev_yes (by omega) ?_)
        refine ev_yes (by have := hb; simp only [Int.natCast_zero] at this; rw [this, h1]; rfl) ?_
        exact hr
      · rw [if_pos (by rw [h1])]
        exact hv
    · rw [if_neg (fun e => h1 (Option.some.inj e))]
      have n1 : ¬ bt s 0 = 34 := by
        have := hb
        simp only [Int.natCast_zero] at this
        rw [this]
        exact not_byte h1
      by_cases h2 : (bl s).all visB = true
      · refine ⟨(s, !((bl s).any fun c => (bl (⟨#[34]⟩ : ByteArray)).contains c)), ?_, ?_⟩
        · refine ev_no (by rw [toList_bl]; exact h0) (ev_yes (by omega) (ev_no n1 ?_))
          refine Ev.bind (printable_ev s hs) (ev_yes h2 ?_)
          exact Ev.bind (has_ev s _ hs (by decide)) (Ev.now _)
        · have e : ((bl s).all fun c => visB c && c != 34) = !((bl s).any fun c => (bl (⟨#[34]⟩ : ByteArray)).contains c) := by
            rw [List.all_eq_true] at h2
            rw [Bool.eq_iff_iff]
            simp only [List.all_eq_true, Bool.and_eq_true, bne_iff_ne, ne_eq, Bool.not_eq_true', List.any_eq_false]
            constructor
            · intro h c hc hx
              rw [List.contains_iff_mem] at hx
              exact (h c hc).2 (by simpa using hx)
            · intro h c hc
              refine ⟨h2 c hc, fun e => h c hc ?_⟩
              subst e
              decide
          have e3 : (bl s).isEmpty = false := by simpa using h0
          rw [e]
          cases hx : ((bl s).any fun c => (bl (⟨#[34]⟩ : ByteArray)).contains c)
          · exact ⟨by rw [e3]; rfl, fun _ => rfl⟩
          · exact ⟨rfl, fun h => by cases h⟩
      · refine ⟨(s, false), ?_, ?_⟩
        · refine ev_no (by rw [toList_bl]; exact h0) (ev_yes (by omega) (ev_no n1 ?_))
          exact Ev.bind (printable_ev s hs) (ev_no h2 (Ev.now _))
        · rw [if_neg]
          · exact ⟨rfl, fun h => by cases h⟩
          · intro h
            apply h2
            rw [List.all_eq_true] at h ⊢
            intro c hc
            have := h c hc
            rw [Bool.and_eq_true] at this
            exact this.1
end Go.Proofs.YtieompfmhnpnaaaGreat.H
namespace Go.Proofs.YtieompfmhnpnaaaGreat.H
open Go.RowKit Go.Proofs.YtieompfmhnpnaaaGreatW.PrintWords Go.Proofs.YtieompfmhnpnaaaGreatW.PrintLast Go.Proofs.YtieompfmhnpnaaaGreatW.PrintMore
set_option linter.unusedVariables false
set_option linter.unusedSimpArgs false
theorem rd25 (l : List S25) (i : Nat) (h : i < l.length) : rd_T25 l (i : Int) = l[i] := by simp [rd_T25, List.getD, h]
theorem rdB (l : List ByteArray) (i : Nat) (h : i < l.length) : rdOf ByteArray.empty l (i : Int) = l[i] := by simp [rdOf, List.getD, h]
def addQ (ps : List S25) (x : ByteArray) : List S25 := (stepQ ⟨⟨#[]⟩, false, ps⟩ x).ps
theorem stepQ_add (st : QP) (x : ByteArray) (h : st.first = false) : stepQ st x = ⟨st.main, false, addQ st.ps x⟩ := by
  obtain ⟨m, f, ps⟩ := st
  obtain rfl : f = false := h
  unfold addQ stepQ
  simp only [Bool.false_eq_true, if_false]
  split
  · rfl
  · split <;> rfl
theorem foldQ_add (xs : List ByteArray) : ∀ (st : QP), st.first = false → foldQ st xs = ⟨st.main, false, xs.foldl addQ st.ps⟩ := by
  induction xs with
  | nil => intro st h; obtain ⟨m, f, ps⟩ := st; obtain rfl : f = false := h; rfl
  | cons x xs ih =>
    intro st h
    show foldQ (stepQ st x) xs = _
    rw [stepQ_add st x h, ih _ rfl]
    rfl
theorem addQ_eq (ps : List S25) (x : ByteArray) : addQ ps x = if (cutAt x 61).2.2 = true ∧ isTokenB (pnameS x) = true ∧ inB (pnameS x) (namesOf ps) = false ∧ (valueS (trimS (cutAt x 61).2.1)).2 = true then ps ++ [⟨pnameS x, (valueS (trimS (cutAt x 61).2.1)).1⟩] else ps := by
  unfold addQ stepQ
  simp only [Bool.false_eq_true, if_false]
  by_cases h1 : (cutAt x 61).2.2 = false ∨ isTokenB (pnameS x) = false ∨ inB (pnameS x) (namesOf ps) = true
  · rw [if_pos h1, if_neg]
    rintro ⟨a, b, c, d⟩
    rcases h1 with h1 | h1 | h1
    · rw [a] at h1; cases h1
    · rw [b] at h1; cases h1
    · rw [c] at h1; cases h1
  · rw [if_neg h1]
    simp only [not_or, Bool.not_eq_false, Bool.not_eq_true] at h1
    by_cases h2 : (valueS (trimS (cutAt x 61).2.1)).2 = true
    · rw [if_pos h2, if_pos ⟨h1.1, h1.2.1, h1.2.2, h2⟩]
    · rw [if_neg h2, if_neg (fun e => h2 e.2.2.2)]
theorem cut_split (x : ByteArray) (j : Nat) (hj : j < x.size) (hb : byteAt x j = 61) (hn : (61 : UInt8) ∉ (bl x).take j) : cutAt x 61 = (x.extract 0 j, x.extract (j + 1) x.size, true) := by
  have hl := bl_length x
  have e : bl x = (bl x).take j ++ 61 :: (bl x).drop (j + 1) := by
    rw [← hb, ← drop_byteAt x j hj, List.take_append_drop]
  rw [cutAt_cut e hn]
  have e1 : mkB ((bl x).take j) = x.extract 0 j := by apply bl_inj; rw [bl_extract]; rfl
  have e2 : mkB ((bl x).drop (j + 1)) = x.extract (j + 1) x.size := by apply bl_inj; rw [bl_extract, List.take_of_length_le (by omega)]
  rw [e1, e2]
section
variable (l : List ByteArray) (hl0 : ∀ x ∈ l, x.size ≤ 1099511627776) (hl1 : l.length ≤ 1099511627777)
include hl1
theorem refparams_l2 (out : List S25) (ho : out.length ≤ 1099511627777) (i : Nat) (hi : i < l.length) (nm : ByteArray) (hnm : nm.size ≤ 1099511627776) (v : ByteArray) (r : ByteArray × List S25) :
    ∀ (n k : Nat) (b : Bool), k + n = out.length →
      Ev (fun f => missiveref09_Params.l0 f l (if (b && !(inB nm (namesOf (out.drop k)))) = true ∧ isTokenB nm = true then out ++ [⟨nm, v⟩] else out) ((i + 1 : Nat) : Int)) r →
      Ev (fun f => missiveref09_Params.l2 f l out (i : Int) nm v b (k : Int)) r
  | 0, k, b, hk, hr => by
    refine Ev.step (fun k => by simp only [missiveref09_Params.l2]; rfl) ?_
    refine ev_no (by omega) ?_
    rw [wrap_up i (by omega)]
    have e : inB nm (namesOf (out.drop k)) = false := by rw [List.drop_of_length_le (by omega)]; rfl
    rw [e] at hr
    cases b with
    | true =>
      refine ev_yes (by trivial) ?_
      refine Ev.bind (token_ev nm hnm) ?_
      by_cases ht : isTokenB nm = true
      · rw [if_pos ⟨by rfl, ht⟩] at hr
        exact ev_yes ht (ev_yes (by omega) hr)
      · rw [if_neg (fun e => ht e.2)] at hr
        exact ev_no ht hr
    | false =>
      rw [if_neg (fun e => by cases e.1)] at hr
      exact ev_no (by decide) hr
  | n + 1, k, b, hk, hr => by
    refine Ev.step (fun k => by simp only [missiveref09_Params.l2]; rfl) ?_
    refine ev_yes (by omega) ?_
    rw [wrap_up k (by omega), rd25 out k (by omega)]
    have e : inB nm (namesOf (out.drop k)) = (bl out[k].f0 == bl nm || inB nm (namesOf (out.drop (k + 1)))) := by
      rw [List.drop_eq_getElem_cons (by omega)]
      rfl
    rw [e] at hr
    have e2 : (out[k].f0.toList != nm.toList) = !(bl out[k].f0 == bl nm) := by rw [toList_bl, toList_bl]; rfl
    rw [e2]
    cases b with
    | true =>
      refine ev_yes (by trivial) (ev_yes (by omega) ?_)
      refine refparams_l2 out ho i hi nm hnm v r n (k + 1) _ (by omega) ?_
      have e3 : (!(bl out[k].f0 == bl nm) && !(inB nm (namesOf (out.drop (k + 1))))) = (true && !(bl out[k].f0 == bl nm || inB nm (namesOf (out.drop (k + 1))))) := by
        rw [Bool.true_and, Bool.not_or]
      rw [e3]
      exact hr
    | false =>
      refine ev_no (by decide) ?_
      refine refparams_l2 out ho i hi nm hnm v r n (k + 1) _ (by omega) ?_
      rw [if_neg (fun e => by cases e.1)] at hr
      rw [if_neg (fun e => by cases e.1)]
      exact hr
include hl0
theorem refparams_j2 (out : List S25) (ho : out.length ≤ 1099511627777) (i : Nat) (hi : i < l.length) (r : ByteArray × List S25) (j : Nat) (hj : j ≤ l[i].size) (hn : (61 : UInt8) ∉ (bl l[i]).take j) (hb : j < l[i].size → byteAt l[i] j = 61)
    (hr : Ev (fun f => missiveref09_Params.l0 f l (addQ out l[i]) ((i + 1 : Nat) : Int)) r) : Ev (fun f => missiveref09_Params.j2 f l out (i : Int) (j : Int)) r := by
  have hx := hl0 _ (List.getElem_mem hi)
  refine Ev.step (fun k => by simp only [missiveref09_Params.j2]; rfl) ?_
  rw [rdB l i hi, wrap_up i (by omega), wrap_up j (by omega)]
  generalize hX : l[i] = x at *
  have hlen := bl_length x
  refine ev_yes (by omega) (ev_yes (by omega) ?_)
  by_cases he : j = x.size
  · refine ev_yes (by rw [he]) ?_
    have hc : cutAt x 61 = (x, ⟨#[]⟩, false) := cutAt_not (by rw [List.take_of_length_le (by omega)] at hn; exact hn)
    have ha : addQ out x = out := by rw [addQ_eq, hc]; rw [if_neg (fun e => by cases e.1)]
    rw [ha] at hr
    exact hr
  · refine ev_no (by omega) (ev_yes (by omega) (ev_yes (by omega) ?_))
    have hjl : j < x.size := by omega
    have hc := cut_split x j hjl (hb hjl) hn
    have hE1 : (x.extract 0 j).size ≤ 1099511627776 := by simp; omega
    have hE2 : (x.extract (j + 1) x.size).size ≤ 1099511627776 := by simp; omega
    rw [Int.toNat_natCast, Int.toNat_natCast]
    refine Ev.bind (reftrim_ev _ hE1) ?_
    have hL : missiveref01_Lower.f (trimS (x.extract 0 j)) = some (pnameS x) := by
      unfold missiveref01_Lower.f
      have := trim_size (x.extract 0 j)
      rw [if_pos (by omega)]
      unfold pnameS
      rw [hc]
    have hps : (pnameS x).size ≤ 1099511627776 := by
      unfold pnameS
      rw [lowS_size, hc]
      have := trim_size (x.extract 0 j)
      dsimp only
      omega
    simp only [hL, Option.bind_some]
    refine ev_yes (by omega) (ev_yes (by omega) ?_)
    refine Ev.bind (reftrim_ev _ hE2) ?_
    have hT := trim_size (x.extract (j + 1) x.size)
    obtain ⟨rv, hv, hS⟩ := refvalue_ev (trimS (x.extract (j + 1) x.size)) (by omega)
    refine Ev.bind hv ?_
    refine refparams_l2 l hl1 out ho i hi (pnameS x) hps rv.1 r out.length 0 rv.2 (by omega) ?_
    rw [List.drop_zero]
    have ha : (if (rv.2 && !(inB (pnameS x) (namesOf out))) = true ∧ isTokenB (pnameS x) = true then out ++ [⟨pnameS x, rv.1⟩] else out) = addQ out x := by
      rw [addQ_eq, hc]
      dsimp only
      by_cases h : rv.2 = true
      · have h2 := hS.2 h
        have h3 := hS.1
        rw [h] at h3
        rw [h, ← h3, h2]
        by_cases h4 : inB (pnameS x) (namesOf out) = true
        · rw [h4, if_neg (fun e => by cases e.1), if_neg (fun e => by cases e.2.2.1)]
        · have h4' : inB (pnameS x) (namesOf out) = false := by simpa using h4
          rw [h4']
          by_cases h5 : isTokenB (pnameS x) = true
          · rw [if_pos ⟨rfl, h5⟩, if_pos ⟨rfl, h5, rfl, rfl⟩]
          · rw [if_neg (fun e => h5 e.2), if_neg (fun e => h5 e.2.1)]
      · have h' : rv.2 = false := by simpa using h
        have h3 := hS.1
        rw [h'] at h3
        rw [h', ← h3, if_neg (fun e => by cases e.1), if_neg (fun e => by cases e.2.2.2)]
    rw [ha]
    exact hr
theorem refparams_l1 (out : List S25) (ho : out.length ≤ 1099511627777) (i : Nat) (hi : i < l.length) (r : ByteArray × List S25)
    (hr : Ev (fun f => missiveref09_Params.l0 f l (addQ out l[i]) ((i + 1 : Nat) : Int)) r) : ∀ (n j : Nat), j + n = l[i].size → (61 : UInt8) ∉ (bl l[i]).take j → Ev (fun f => missiveref09_Params.l1 f l out (i : Int) (j : Int)) r
  | 0, j, hj, hn => by
    refine Ev.step (fun k => by simp only [missiveref09_Params.l1]; rfl) ?_
    rw [rdB l i hi]
    refine ev_yes (by omega) (ev_yes (by omega) (ev_no (by omega) ?_))
    exact refparams_j2 l hl0 hl1 out ho i hi r j (by omega) hn (fun h => by omega) hr
  | n + 1, j, hj, hn => by
    have hx := hl0 _ (List.getElem_mem hi)
    refine Ev.step (fun k => by simp only [missiveref09_Params.l1]; rfl) ?_
    rw [rdB l i hi, bt_byteAt l[i] j (by omega), wrap_up j (by omega)]
    refine ev_yes (by omega) (ev_yes (by omega) (ev_yes (by omega) (ev_yes (by omega) ?_)))
    by_cases h : byteAt l[i] j = 61
    · refine ev_yes (by rw [h]; rfl) ?_
      exact refparams_j2 l hl0 hl1 out ho i hi r j (by omega) hn (fun _ => h) hr
    · refine ev_no (not_byte h) ?_
      refine refparams_l1 out ho i hi r hr n (j + 1) (by omega) ?_
      rw [take_byteAt l[i] j (by omega), List.mem_append]
      rintro (h2 | h2)
      · exact hn h2
      · exact h (by simpa using h2 : 61 = byteAt l[i] j).symm
theorem refparams_l0 (h0 : 0 < l.length) : ∀ (n i : Nat) (out : List S25), i + n = l.length → out.length ≤ i →
    Ev (fun f => missiveref09_Params.l0 f l out (i : Int)) (trimS l[0], (l.drop i).foldl addQ out)
  | 0, i, out, hi, ho => by
    refine Ev.step (fun k => by simp only [missiveref09_Params.l0]; rfl) ?_
    have e := rdB l 0 h0
    simp only [Int.natCast_zero] at e
    rw [e]
    refine ev_no (by omega) (ev_yes (by omega) ?_)
    refine Ev.bind (reftrim_ev _ (hl0 _ (List.getElem_mem h0))) (ev_done ?_)
    rw [List.drop_of_length_le (by omega)]
    rfl
  | n + 1, i, out, hi, ho => by
    refine Ev.step (fun k => by simp only [missiveref09_Params.l0]; rfl) ?_
    refine ev_yes (by omega) ?_
    refine refparams_l1 l hl0 hl1 out (by omega) i (by omega) _ ?_ l[i].size 0 (by omega) (by simp)
    have hlen : (addQ out l[i]).length ≤ i + 1 := by
      rw [addQ_eq]
      split
      · simp; omega
      · omega
    have ih := refparams_l0 h0 n (i + 1) (addQ out l[i]) (by omega) hlen
    rw [List.drop_eq_getElem_cons (by omega), List.foldl_cons]
    exact ih
end
theorem pieces_ne (s : ByteArray) : ∀ (k fr : Nat) (q : Bool) (i : Nat), 0 < (piecesAt s k fr q i).length
  | 0, fr, q, i => by simp [piecesAt]
  | k + 1, fr, q, i => by
    rw [piecesAt]
    split
    · split
      · exact pieces_ne s k _ _ _
      · split
        · exact pieces_ne s k _ _ _
        · split
          · simp
          · exact pieces_ne s k _ _ _
    · simp
theorem refparams_ev (s : ByteArray) (hs : s.size ≤ 1099511627775) : Ev (fun k => missiveref09_Params.f k s) (paramsS s) := by
  unfold missiveref09_Params.f
  refine Ev.bind (refpieces_ev s (by omega)) ?_
  have hlen : (piecesOf s).length ≤ s.size + 1 + 1 := piecesAt_length s _ _ _ _
  have hp : 0 < (piecesOf s).length := pieces_ne s _ _ _ _
  have hsz : ∀ x ∈ piecesOf s, x.size ≤ 1099511627776 := fun x hx => by have := piecesAt_size s _ _ _ _ x hx; omega
  have h := refparams_l0 (piecesOf s) hsz (by omega) hp ((piecesOf s).length - 1) 1 [] (by omega) (by simp)
  have e : paramsS s = (trimS (piecesOf s)[0], ((piecesOf s).drop 1).foldl addQ []) := by
    unfold paramsS
    generalize piecesOf s = ps at *
    cases ps with
    | nil => simp at hp
    | cons x ps =>
      have e1 : foldQ ⟨⟨#[]⟩, true, []⟩ (x :: ps) = foldQ ⟨trimS x, false, []⟩ ps := by
        show foldQ (stepQ _ _) _ = _
        unfold stepQ
        rw [if_pos rfl]
      rw [e1, foldQ_add ps _ rfl]
      rfl
  rw [e]
  exact h
theorem refquote_l1 (l : List S25) (i : Nat) (p : S25) (hp : p.f1.size ≤ 1099511627776) (r : ByteArray) : ∀ (n j : Nat) (a : List UInt8), j + n = p.f1.size → a.length + 2 * n ≤ 4611686018427387904 → i ≤ 1099511627776 →
    Ev (fun k => missiveref09_Quote.l0 k l (mkB (a ++ ((bl p.f1).drop j).flatMap escL ++ [34])) ((i + 1 : Nat) : Int)) r →
    Ev (fun k => missiveref09_Quote.l1 k l (mkB a) (i : Int) (j : Int) p.f0 p.f1) r
  | 0, j, a, hj, ha, hi, hr => by
    have hlen := bl_length p.f1
    refine Ev.step (fun k => by simp only [missiveref09_Quote.l1]; rfl) ?_
    rw [wrap_up i (by omega)]
    have e : mkB a ++ (⟨#[34]⟩ : ByteArray) = mkB (a ++ [34]) := mkB_app a [34]
    have hsz : (mkB a).size = a.length := mkB_size a
    rw [List.drop_of_length_le (by omega), List.flatMap_nil, List.append_nil] at hr
    refine ev_no (by omega) (ev_yes (by omega) ?_)
    rw [e]
    exact hr
  | n + 1, j, a, hj, ha, hi, hr => by
    refine Ev.step (fun k => by simp only [missiveref09_Quote.l1]; rfl) ?_
    have e : mkB a ++ (⟨#[92]⟩ : ByteArray) = mkB (a ++ [92]) := mkB_app a [92]
    have hsz : (mkB a).size = a.length := mkB_size a
    have hsz2 : (mkB (a ++ [92])).size = a.length + 1 := by rw [mkB_size]; simp
    have hx := ext_one p.f1 j (by omega)
    have hsz3 : (mkB [byteAt p.f1 j]).size = 1 := mkB_size _
    rw [drop_byteAt p.f1 j (by omega), List.flatMap_cons] at hr
    rw [bt_byteAt p.f1 j (by omega), wrap_up j (by omega), Int.toNat_natCast, Int.toNat_natCast, hx, e, mkB_app, mkB_app, hsz, hsz2, hsz3]
    refine ev_yes (by omega) (ev_yes (by omega) ?_)
    by_cases h1 : byteAt p.f1 j = 34
    · refine ev_yes (by rw [h1]; rfl) ?_
      refine ev_yes (by omega) (ev_yes (by omega) (ev_yes (by omega) (ev_yes (by omega) ?_)))
      refine refquote_l1 l i p hp r n (j + 1) _ (by omega) (by simp; omega) hi ?_
      have e2 : escL (byteAt p.f1 j) = [92, byteAt p.f1 j] := by rw [h1]; rfl
      rw [e2] at hr
      simpa using hr
    · refine ev_no (not_byte h1) ?_
      by_cases h2 : byteAt p.f1 j = 92
      · refine ev_yes (by rw [h2]; rfl) ?_
        refine ev_yes (by omega) (ev_yes (by omega) (ev_yes (by omega) (ev_yes (by omega) ?_)))
        refine refquote_l1 l i p hp r n (j + 1) _ (by omega) (by simp; omega) hi ?_
        have e2 : escL (byteAt p.f1 j) = [92, byteAt p.f1 j] := by rw [h2]; rfl
        rw [e2] at hr
        simpa using hr
      · refine ev_no (not_byte h2) ?_
        refine ev_yes (by omega) (ev_yes (by omega) (ev_yes (by omega) ?_))
        refine refquote_l1 l i p hp r n (j + 1) _ (by omega) (by simp; omega) hi ?_
        have e2 : escL (byteAt p.f1 j) = [byteAt p.f1 j] := by unfold escL; rw [if_neg h1, if_neg h2]
        rw [e2] at hr
        simpa using hr
theorem refquote_l0 (l : List S25) (hl : ∀ p ∈ l, p.f0.size ≤ 1048576 ∧ p.f1.size ≤ 1048576) (hl1 : l.length ≤ 1048576) : ∀ (n i : Nat) (a : List UInt8), i + n = l.length → a.length ≤ 1048576 + 16777216 * i →
    Ev (fun k => missiveref09_Quote.l0 k l (mkB a) (i : Int)) (mkB (a ++ (l.drop i).flatMap paramL))
  | 0, i, a, hi, ha => by
    refine Ev.step (fun k => by simp only [missiveref09_Quote.l0]; rfl) ?_
    refine ev_no (by omega) (ev_done ?_)
    rw [List.drop_of_length_le (by omega)]
    simp
  | n + 1, i, a, hi, ha => by
    refine Ev.step (fun k => by simp only [missiveref09_Quote.l0]; rfl) ?_
    have hp := hl _ (List.getElem_mem (show i < l.length by omega))
    rw [List.drop_eq_getElem_cons (by omega), List.flatMap_cons, rd25 l i (by omega), wrap_up i (by omega)]
    generalize l[i] = p at *
    have e1 : mkB a ++ (⟨#[59, 32]⟩ : ByteArray) = mkB (a ++ [59, 32]) := mkB_app a [59, 32]
    have e2 : mkB (a ++ [59, 32]) ++ p.f0 = mkB (a ++ [59, 32] ++ bl p.f0) := mkB_str _ _
    have e3 : mkB (a ++ [59, 32] ++ bl p.f0) ++ (⟨#[61]⟩ : ByteArray) = mkB (a ++ [59, 32] ++ bl p.f0 ++ [61]) := mkB_app _ [61]
    have e4 : mkB (a ++ [59, 32] ++ bl p.f0 ++ [61]) ++ p.f1 = mkB (a ++ [59, 32] ++ bl p.f0 ++ [61] ++ bl p.f1) := mkB_str _ _
    have e5 : mkB (a ++ [59, 32] ++ bl p.f0 ++ [61]) ++ (⟨#[34]⟩ : ByteArray) = mkB (a ++ [59, 32] ++ bl p.f0 ++ [61] ++ [34]) := mkB_app _ [34]
    have h0 : (mkB a).size = a.length := mkB_size a
    have h1 : (mkB (a ++ [59, 32])).size = a.length + 2 := by rw [mkB_size]; simp
    have hbl := bl_length p.f0
    have hbl1 := bl_length p.f1
    have h2 : (mkB (a ++ [59, 32] ++ bl p.f0)).size = a.length + 2 + p.f0.size := by rw [mkB_size, List.length_append, hbl]; simp
    have h3 : (mkB (a ++ [59, 32] ++ bl p.f0 ++ [61])).size = a.length + 2 + p.f0.size + 1 := by rw [mkB_size, List.length_append, List.length_append, hbl]; simp
    rw [e1, e2, e3, e4, e5, h0, h1, h2, h3]
    refine ev_yes (by omega) (ev_yes (by omega) ?_)
    refine Ev.bind (token_ev p.f0 (by omega)) ?_
    have hpl := paramL_length p
    have ih := refquote_l0 l hl hl1 n (i + 1) (a ++ paramL p) (by omega) (by rw [List.length_append]; omega)
    rw [List.append_assoc] at ih
    by_cases ht : isTokenB p.f0 = true
    · refine ev_yes ht (ev_yes (by omega) (ev_yes (by omega) (ev_yes (by omega) ?_)))
      refine Ev.bind (token_ev p.f1 (by omega)) ?_
      by_cases hv : isTokenB p.f1 = true
      · refine ev_yes hv (ev_yes (by omega) ?_)
        have e : a ++ [59, 32] ++ bl p.f0 ++ [61] ++ bl p.f1 = a ++ paramL p := by
          unfold paramL valL
          rw [if_pos ht, if_pos hv]
          simp
        rw [e]
        rw [List.append_assoc] at *
        exact ih
      · refine ev_no hv (ev_yes (by omega) ?_)
        refine refquote_l1 l i p (by omega) _ p.f1.size 0 _ (by omega) ?_ (by omega) ?_
        · simp only [List.length_append, List.length_cons, List.length_nil, hbl]; omega
        · have e : a ++ [59, 32] ++ bl p.f0 ++ [61] ++ [34] ++ ((bl p.f1).drop 0).flatMap escL ++ [34] = a ++ paramL p := by
            unfold paramL valL escS
            rw [if_pos ht, if_neg hv, bl_mkB]
            simp
          rw [e]
          exact ih
    · refine ev_no ht ?_
      have e : paramL p = [] := by unfold paramL; rw [if_neg ht]
      rw [e, List.append_nil] at ih
      rw [e]
      exact ih
theorem refquote_ev (m : ByteArray) (l : List S25) (hm : m.size ≤ 1048576) (hl : ∀ p ∈ l, p.f0.size ≤ 1048576 ∧ p.f1.size ≤ 1048576) (hl1 : l.length ≤ 1048576) : Ev (fun k => missiveref09_Quote.f k m l) (mkB (quoteL m l)) := by
  have h := refquote_l0 l hl hl1 l.length 0 (bl m) (by omega) (by rw [bl_length]; omega)
  exact h
end Go.Proofs.YtieompfmhnpnaaaGreat.H
namespace Go.Proofs.YtieompfmhnpnaaaGreat.H
open Go.RowKit Go.Proofs.YtieompfmhnpnaaaGreatW.PrintWords Go.Proofs.YtieompfmhnpnaaaGreatW.PrintLast Go.Proofs.YtieompfmhnpnaaaGreatW.PrintMore
set_option linter.unusedVariables false
set_option linter.unusedSimpArgs false
theorem lowB_idem (c : UInt8) : lowB (lowB c) = lowB c := by
  have h1 := lowB_nat c
  have h2 := lowB_nat (lowB c)
  rw [← UInt8.toNat_inj]
  split at h1 <;> split at h2 <;> omega
theorem lowS_idem (s : ByteArray) : lowS (lowS s) = lowS s := by
  apply bl_inj
  show ((bl s).map lowB).map lowB = (bl s).map lowB
  rw [List.map_map]
  apply List.map_congr_left
  intro c _
  exact lowB_idem c
def GoodPs (l : List S25) : Prop := (∀ p ∈ l, isTokenB p.f0 = true ∧ lowS p.f0 = p.f0) ∧ (l.map (·.f0)).Nodup
theorem goodPs_add (ps : List S25) (x : ByteArray) (h : GoodPs ps) : GoodPs (addQ ps x) := by
  rw [addQ_eq]
  split
  · rename_i hc
    refine ⟨?_, ?_⟩
    · intro p hp
      rw [List.mem_append] at hp
      rcases hp with hp | hp
      · exact h.1 p hp
      · obtain rfl : p = _ := List.mem_singleton.1 hp
        refine ⟨hc.2.1, ?_⟩
        show lowS (pnameS x) = pnameS x
        unfold pnameS
        exact lowS_idem _
    · rw [List.map_append, List.nodup_append]
      refine ⟨h.2, by simp, ?_⟩
      intro a ha b hb e
      obtain rfl : b = pnameS x := by simpa using hb
      subst e
      have h3 := hc.2.2.1
      unfold inB namesOf at h3
      rw [List.any_eq_false] at h3
      exact h3 _ ha (by simp)
  · exact h
theorem goodPs_fold (xs : List ByteArray) : ∀ ps, GoodPs ps → GoodPs (xs.foldl addQ ps) := by
  induction xs with
  | nil => intro ps h; exact h
  | cons x xs ih => intro ps h; exact ih _ (goodPs_add ps x h)
theorem addQ_len (ps : List S25) (x : ByteArray) : (addQ ps x).length ≤ ps.length + 1 := by
  rw [addQ_eq]
  split
  · simp
  · omega
theorem addQs_len (xs : List ByteArray) : ∀ ps, (xs.foldl addQ ps).length ≤ ps.length + xs.length := by
  induction xs with
  | nil => intro ps; exact Nat.le_refl _
  | cons x xs ih =>
    intro ps
    have h1 := ih (addQ ps x)
    have h2 := addQ_len ps x
    rw [List.foldl_cons, List.length_cons]
    omega
theorem addQ_sz (B : Nat) (ps : List S25) (x : ByteArray) (hx : x.size ≤ B) (h : ∀ p ∈ ps, p.f0.size ≤ B) : ∀ p ∈ addQ ps x, p.f0.size ≤ B := by
  rw [addQ_eq]
  split
  · intro p hp
    rw [List.mem_append] at hp
    rcases hp with hp | hp
    · exact h p hp
    · obtain rfl : p = _ := List.mem_singleton.1 hp
      show (pnameS x).size ≤ B
      unfold pnameS
      rw [lowS_size]
      have h1 := trim_size (cutAt x 61).1
      have h2 : (cutAt x 61).1.size ≤ x.size := by
        unfold cutAt
        dsimp only
        split
        · simp; omega
        · exact Nat.le_refl _
      omega
  · exact h
theorem addQs_sz (B : Nat) (xs : List ByteArray) : ∀ ps, (∀ x ∈ xs, x.size ≤ B) → (∀ p ∈ ps, p.f0.size ≤ B) → ∀ p ∈ xs.foldl addQ ps, p.f0.size ≤ B := by
  induction xs with
  | nil => intro ps _ h; exact h
  | cons x xs ih => intro ps hx h; exact ih _ (fun y hy => hx y (by simp [hy])) (addQ_sz B ps x (hx x (by simp)) h)
theorem paramsS_good (s : ByteArray) : GoodPs (paramsS s).2 ∧ (paramsS s).2.length ≤ s.size + 2 ∧ ∀ p ∈ (paramsS s).2, p.f0.size ≤ s.size := by
  have hlen : (piecesOf s).length ≤ s.size + 1 + 1 := piecesAt_length s _ _ _ _
  have hsz : ∀ x ∈ piecesOf s, x.size ≤ s.size := piecesAt_size s _ _ _ _
  have hp : 0 < (piecesOf s).length := pieces_ne s _ _ _ _
  have e : (paramsS s).2 = ((piecesOf s).drop 1).foldl addQ [] := by
    unfold paramsS
    generalize piecesOf s = ps at *
    cases ps with
    | nil => simp at hp
    | cons x ps =>
      have e1 : foldQ ⟨⟨#[]⟩, true, []⟩ (x :: ps) = foldQ ⟨trimS x, false, []⟩ ps := by
        show foldQ (stepQ _ _) _ = _
        unfold stepQ
        rw [if_pos rfl]
      rw [e1, foldQ_add ps _ rfl]
      rfl
  rw [e]
  refine ⟨goodPs_fold _ _ ⟨fun p hp => by simp at hp, by simp⟩, ?_, ?_⟩
  · have h1 := addQs_len ((piecesOf s).drop 1) []
    rw [List.length_drop] at h1
    have h2 : ([] : List S25).length = 0 := rfl
    omega
  · exact addQs_sz _ _ _ (fun x hx => hsz x (List.mem_of_mem_drop hx)) (fun p hp => by simp at hp)
theorem hp_end (m : ByteArray) (l : List S25) (hm : m.size ≤ 300) (hl : ∀ p ∈ l, p.f0.size ≤ 300 ∧ p.f1.size ≤ 300) (hl1 : l.length ≤ 40) (a : ByteArray) (ps : List S25) (hps : ps.length ≤ 1099511627776) (i : Int) (hi : ¬ i < (ps.length : Int)) :
    Ev (fun k => missivelaw09_HeaderParams.l1 k m l true a ps a ps i) true := by
  refine Ev.step (fun k => by simp only [missivelaw09_HeaderParams.l1]; rfl) ?_
  refine ev_no hi (ev_yes (by trivial) (ev_yes (by trivial) ?_))
  refine Ev.bind (samep_ev ps hps) (ev_yes (by trivial) ?_)
  have hpm : psum l ≤ 2416 * l.length := by
    have : ∀ l : List S25, (∀ p ∈ l, p.f0.size ≤ 300 ∧ p.f1.size ≤ 300) → psum l ≤ 2416 * l.length := by
      intro l
      induction l with
      | nil => intro _; exact Nat.le_refl _
      | cons p l ih =>
        intro h
        have h1 := h p (by simp)
        have h2 := ih (fun q hq => h q (by simp [hq]))
        unfold psum at *
        rw [List.map_cons, List.sum_cons, List.length_cons]
        omega
    exact this l hl
  have hq : header_Quote.f m l = some (mkB (quoteL m l)) := by unfold header_Quote.f; rw [if_pos (by omega)]
  simp only [hq, Option.bind_some]
  refine Ev.bind (refquote_ev m l (by omega) (fun p hp => by have := hl p hp; omega) (by omega)) (ev_done (by simp))
theorem hp_l2 (m : ByteArray) (l : List S25) (a : ByteArray) (ps : List S25) (hps : ps.length ≤ 1099511627776) (hd : (ps.map (·.f0)).Nodup) (i : Nat) (hi : i < ps.length) (hr : Ev (fun k => missivelaw09_HeaderParams.l1 k m l true a ps a ps ((i + 1 : Nat) : Int)) true) : ∀ (n j : Nat), j + n = i →
    Ev (fun k => missivelaw09_HeaderParams.l2 k m l true a ps a ps (i : Int) (j : Int)) true
  | 0, j, hj => by
    refine Ev.step (fun k => by simp only [missivelaw09_HeaderParams.l2]; rfl) ?_
    rw [wrap_up i (by omega)]
    exact ev_no (by omega) hr
  | n + 1, j, hj => by
    refine Ev.step (fun k => by simp only [missivelaw09_HeaderParams.l2]; rfl) ?_
    rw [wrap_up j (by omega), rd25 ps j (by omega), rd25 ps i hi]
    refine ev_yes (by omega) (ev_yes (by omega) (ev_yes (by omega) (ev_yes (by omega) (ev_yes (by omega) (ev_no ?_ ?_)))))
    · intro e
      have e2 : ps[j].f0 = ps[i].f0 := bl_inj (by rw [← toList_bl, ← toList_bl]; exact e)
      have e3 : (ps.map (·.f0))[j]'(by rw [List.length_map]; omega) = (ps.map (·.f0))[i]'(by rw [List.length_map]; omega) := by simpa using e2
      have h4 := (List.pairwise_iff_getElem.1 (List.nodup_iff_pairwise_ne.1 hd)) j i (by rw [List.length_map]; omega) (by rw [List.length_map]; omega) (by omega)
      exact h4 e3
    · exact hp_l2 m l a ps hps hd i hi hr n (j + 1) (by omega)
theorem hp_l1 (m : ByteArray) (l : List S25) (hm : m.size ≤ 300) (hl : ∀ p ∈ l, p.f0.size ≤ 300 ∧ p.f1.size ≤ 300) (hl1 : l.length ≤ 40) (a : ByteArray) (ps : List S25) (hps : ps.length ≤ 1099511627776) (hg : GoodPs ps) (hz : ∀ p ∈ ps, p.f0.size ≤ 1099511627776) : ∀ (n i : Nat), i + n = ps.length →
    Ev (fun k => missivelaw09_HeaderParams.l1 k m l true a ps a ps (i : Int)) true
  | 0, i, hi => hp_end m l hm hl hl1 a ps hps _ (by omega)
  | n + 1, i, hi => by
    have ih := hp_l1 m l hm hl hl1 a ps hps hg hz n (i + 1) (by omega)
    refine Ev.step (fun k => by simp only [missivelaw09_HeaderParams.l1]; rfl) ?_
    rw [rd25 ps i (by omega)]
    have hgi := hg.1 _ (List.getElem_mem (show i < ps.length by omega))
    have hzi := hz _ (List.getElem_mem (show i < ps.length by omega))
    refine ev_yes (by omega) (ev_yes (by omega) ?_)
    refine Ev.bind (token_ev _ hzi) (ev_yes hgi.1 ?_)
    have hL : text_Lower.f ps[i].f0 = some (lowS ps[i].f0) := by unfold text_Lower.f; rw [if_pos hzi]
    simp only [hL, Option.bind_some]
    have e : ((lowS ps[i].f0).toList != ps[i].f0.toList) = false := by rw [hgi.2]; simp
    simp only [e]
    refine Ev.step (fun k => by simp only [missivelaw09_HeaderParams.j3]; rfl) ?_
    exact ev_no (by decide) (hp_l2 m l a ps hps hg.2 i (by omega) ih i 0 (by omega))
theorem hp_l0 (v m : ByteArray) (l : List S25) (hv : v.size ≤ 3000) (hm : m.size ≤ 300) (hl1 : l.length ≤ 40) : ∀ (n i : Nat), i + n = l.length → (∀ p ∈ l.take i, p.f0.size ≤ 300 ∧ p.f1.size ≤ 300) →
    Ev (fun k => missivelaw09_HeaderParams.l0 k v m l true (i : Int)) true
  | 0, i, hi, hl => by
    refine Ev.step (fun k => by simp only [missivelaw09_HeaderParams.l0]; rfl) ?_
    rw [List.take_of_length_le (by omega)] at hl
    have hP : header_Params.f v = some (paramsS v) := by unfold header_Params.f; rw [if_pos (by omega)]
    refine ev_no (by omega) ?_
    simp only [hP, Option.bind_some]
    refine Ev.bind (refparams_ev v (by omega)) ?_
    have hg := paramsS_good v
    exact hp_l1 m l hm hl hl1 _ _ (by omega) hg.1 (fun p hp => by have := hg.2.2 p hp; omega) (paramsS v).2.length 0 (by omega)
  | n + 1, i, hi, hl => by
    refine Ev.step (fun k => by simp only [missivelaw09_HeaderParams.l0]; rfl) ?_
    rw [rd25 l i (by omega), wrap_up i (by omega)]
    refine ev_yes (by omega) (ev_yes (by omega) ?_)
    by_cases h0 : (l[i].f0.size : Int) > 300
    · exact ev_yes h0 (Ev.now _)
    · refine ev_no h0 ?_
      by_cases h1 : (l[i].f1.size : Int) > 300
      · exact ev_yes h1 (Ev.now _)
      · refine ev_no h1 ?_
        refine hp_l0 v m l hv hm hl1 n (i + 1) (by omega) ?_
        intro p hp
        rw [List.take_succ_eq_append_getElem (by omega), List.mem_append] at hp
        rcases hp with hp | hp
        · exact hl p hp
        · obtain rfl : p = l[i] := by simpa using hp
          exact ⟨by omega, by omega⟩
theorem hp_j0_done (v m : ByteArray) (l : List S25) : Ev (fun k => missivelaw09_HeaderParams.j0 k v m l true true) true := by
  refine Ev.step (fun k => by simp only [missivelaw09_HeaderParams.j0]; rfl) ?_
  exact ev_yes (by trivial) (Ev.now _)
theorem hparams_ev (v m : ByteArray) (l : List S25) : Ev (fun k => missivelaw09_HeaderParams.f k v m l) true := by
  unfold missivelaw09_HeaderParams.f
  refine Ev.bind small_ev ?_
  by_cases h1 : (v.size : Int) > 3000
  · exact ev_yes h1 (hp_j0_done v m l)
  · refine ev_no h1 ?_
    by_cases h2 : (m.size : Int) > 300
    · exact ev_yes h2 (hp_j0_done v m l)
    · refine ev_no h2 ?_
      by_cases h3 : (l.length : Int) > 40
      · simp only [decide_eq_true h3]
        exact hp_j0_done v m l
      · simp only [decide_eq_false h3]
        refine Ev.step (fun k => by simp only [missivelaw09_HeaderParams.j0]; rfl) ?_
        exact ev_no (by decide) (hp_l0 v m l (by omega) (by omega) (by omega) l.length 0 (by omega) (fun p hp => by simp at hp))
end Go.Proofs.YtieompfmhnpnaaaGreat.H
end
section
namespace Go.Proofs.YtieompfmhnpnaaaGreat.H
open Go.RowKit Go.ChangeShapes Go.WideShapes Go.Proofs.YtieompfmhnpnaaaGreatW.PrintWords Go.Proofs.YtieompfmhnpnaaaGreatW.PrintLast Go.Proofs.YtieompfmhnpnaaaGreatW.PrintMore
set_option linter.unusedVariables false
instance : Inhabited S35 := ⟨⟨⟨#[]⟩, ⟨#[]⟩⟩⟩
instance : Inhabited S25 := ⟨⟨⟨#[]⟩, ⟨#[]⟩⟩⟩
theorem open_fields {H : Type} {enc : TypeId × Value → H} {W : World} {base : Nat} {spare : Nat → Bool} {held : Bool} {a : Option Addr} {len cap : Nat} {d : DataW H} {ps : List MemPlace} {ts : List TypeId} {ds : List (DataW H)} {j : Nat}
    (hsz : (DataW.weightsEach Tryz.prog ts ds).all (· ≤ reachBytes) = true) (ht : ts[j]? = some 33) (hd : ds[j]? = some d)
    (h : DataW.Trod enc Tryz.prog W base spare held 33 (.slice a len cap) d ps) : ∃ l0 : List S35, l0.length = len ∧ len ≤ cap ∧ len ≤ 4398046511104 ∧ Kd.C k35 W a len l0 := by
  obtain ⟨fuel, hf⟩ := h
  rcases Deep.open_slice_pairs Tryz.underlying33 Tryz.underlying35 (by kernel_rfl) rfl rfl (by kernel_rfl) (by kernel_rfl) hf with ⟨hcs, _⟩ | ⟨x, l, c, m, n, V0, V1, D0, D1, P0, P1, hcs, _, hl, hm, hmm, hx, hcell⟩
  · simp [Value.cells] at hcs
    obtain ⟨rfl, rfl, rfl⟩ := hcs
    exact ⟨[], rfl, Nat.le_refl _, by omega, rfl, by omega, fun h => absurd h (by omega)⟩
  · simp [Value.cells] at hcs
    obtain ⟨rfl, rfl, rfl⟩ := hcs
    obtain ⟨hx, _⟩ := Prod.mk.inj hx
    subst hx
    have z := sized_slice hsz ht hd Tryz.underlying33
    have hb : Tryz.prog.bytesOf 35 = 32 := by kernel_rfl
    rw [hb] at z
    simp only [List.length_map, List.length_range] at z
    have z2 : len * 32 ≤ 140737488351232 := Nat.le_trans (Nat.mul_le_mul_right _ (Nat.le_add_right _ _)) z
    have hlm : len ≤ m := by rw [hmm]; split <;> omega
    have each : ∀ i, i < m → ∃ q : S35, W.cell? (x.add (i * 2)) = some (.string q.f0) ∧ W.cell? (x.add (i * 2 + 1)) = some (.string q.f1) := by
      intro i hi
      obtain ⟨h0, h1, h2, h3⟩ := hcell i hi
      obtain ⟨s0, e0, _, _⟩ := DataW.trod_string Tryz.underlying9 h2
      obtain ⟨s1, e1, _, _⟩ := DataW.trod_string Tryz.underlying9 h3
      injection e0 with e0
      injection e1 with e1
      exact ⟨⟨s0, s1⟩, by rw [h0, e0], by rw [h1, e1]⟩
    obtain ⟨S, hS⟩ := Deep.choose_lt each
    refine ⟨(List.range len).map S, by simp, hl, by omega, by simp, by omega, fun h0 => ⟨x, rfl, fun i p hp => ?_⟩⟩
    have hi : i < len := by
      have := (List.getElem?_eq_some_iff.1 hp).1
      simpa using this
    obtain rfl : S i = p := by simpa [hi] using hp
    refine ⟨[.string (S i).f0, .string (S i).f1], rfl, k35_mk W (S i), fun q u hq => ?_⟩
    obtain ⟨c0, c1⟩ := hS i (by omega)
    match q, hq with
    | 0, hq => simp at hq; subst hq; exact c0
    | 1, hq => simp at hq; subst hq; exact c1
theorem open_params {H : Type} {enc : TypeId × Value → H} {W : World} {base : Nat} {spare : Nat → Bool} {held : Bool} {a : Option Addr} {len cap : Nat} {d : DataW H} {ps : List MemPlace} {ts : List TypeId} {ds : List (DataW H)} {j : Nat}
    (hsz : (DataW.weightsEach Tryz.prog ts ds).all (· ≤ reachBytes) = true) (ht : ts[j]? = some 22) (hd : ds[j]? = some d)
    (h : DataW.Trod enc Tryz.prog W base spare held 22 (.slice a len cap) d ps) : ∃ l0 : List S25, l0.length = len ∧ len ≤ cap ∧ len ≤ 4398046511104 ∧ Kd.C k25 W a len l0 := by
  obtain ⟨fuel, hf⟩ := h
  rcases Deep.open_slice_pairs Tryz.underlying22 Tryz.underlying25 (by kernel_rfl) rfl rfl (by kernel_rfl) (by kernel_rfl) hf with ⟨hcs, _⟩ | ⟨x, l, c, m, n, V0, V1, D0, D1, P0, P1, hcs, _, hl, hm, hmm, hx, hcell⟩
  · simp [Value.cells] at hcs
    obtain ⟨rfl, rfl, rfl⟩ := hcs
    exact ⟨[], rfl, Nat.le_refl _, by omega, rfl, by omega, fun h => absurd h (by omega)⟩
  · simp [Value.cells] at hcs
    obtain ⟨rfl, rfl, rfl⟩ := hcs
    obtain ⟨hx, _⟩ := Prod.mk.inj hx
    subst hx
    have z := sized_slice hsz ht hd Tryz.underlying22
    have hb : Tryz.prog.bytesOf 25 = 32 := by kernel_rfl
    rw [hb] at z
    simp only [List.length_map, List.length_range] at z
    have z2 : len * 32 ≤ 140737488351232 := Nat.le_trans (Nat.mul_le_mul_right _ (Nat.le_add_right _ _)) z
    have hlm : len ≤ m := by rw [hmm]; split <;> omega
    have each : ∀ i, i < m → ∃ q : S25, W.cell? (x.add (i * 2)) = some (.string q.f0) ∧ W.cell? (x.add (i * 2 + 1)) = some (.string q.f1) := by
      intro i hi
      obtain ⟨h0, h1, h2, h3⟩ := hcell i hi
      obtain ⟨s0, e0, _, _⟩ := DataW.trod_string Tryz.underlying9 h2
      obtain ⟨s1, e1, _, _⟩ := DataW.trod_string Tryz.underlying9 h3
      injection e0 with e0
      injection e1 with e1
      exact ⟨⟨s0, s1⟩, by rw [h0, e0], by rw [h1, e1]⟩
    obtain ⟨S, hS⟩ := Deep.choose_lt each
    refine ⟨(List.range len).map S, by simp, hl, by omega, by simp, by omega, fun h0 => ⟨x, rfl, fun i p hp => ?_⟩⟩
    have hi : i < len := by
      have := (List.getElem?_eq_some_iff.1 hp).1
      simpa using this
    obtain rfl : S i = p := by simpa [hi] using hp
    refine ⟨[.string (S i).f0, .string (S i).f1], rfl, k25_mk W (S i), fun q u hq => ?_⟩
    obtain ⟨c0, c1⟩ := hS i (by omega)
    match q, hq with
    | 0, hq => simp at hq; subst hq; exact c0
    | 1, hq => simp at hq; subst hq; exact c1
end Go.Proofs.YtieompfmhnpnaaaGreat.H
end
section
namespace Go.Proofs.YtieompfmhnpnaaaGreat.headerParams
open Go.ChangeShapes Go.WideShapes Go.ChangeAt Go.RowKit
open Go.ChangeMaps (open_string shut_string)
set_option linter.unusedVariables false
theorem own : ownKnob Tryz.prog.godebug = none := by kernel_rfl
theorem laidOut : laidOutB Tryz.prog = true := by kernel_rfl
set_option maxRecDepth 100000 in
theorem lifted (os : Os) (started : os.Started) (H : Type) (enc : TypeId × Value → H) :
    ReturnsInHanded {} Tryz.checked os 3 .any (Rows.headerParamsSpec.pre6 enc Tryz.prog Tryz.f3 Rows.headerParamsRow.domain false) (Rows.headerParamsSpec.post enc Tryz.prog Tryz.f3 false true false false) := by
  refine returnsInHanded_of_change_sized (C := Tryz.checked) own started (by kernel_rfl) Tryz.func3
    (ChangeSpec.witness6 (enc := enc) (C := Tryz.checked) false ⟨#[], #[.string ByteArray.empty, .string ByteArray.empty, .slice none 0 0], []⟩ 8 (by kernel_rfl) (by kernel_rfl) (by kernel_rfl) (by kernel_rfl)) ?_
  intro W base args ds gs before hval0 hW hcnd hsz0 _
  have hsz : (DataW.weightsEach Tryz.prog (Tryz.f3.params.toList ++ Rows.headerParamsSpec.plain.varTypes Tryz.prog) (ds ++ gs)).all (· ≤ reachBytes) = true := hsz0
  have hval : ∀ (j : Nat) t v, Tryz.f3.params[j]? = some t → args[j]? = some v → Value.okWide Tryz.prog W .any base t v := hval0
  have hW' := hW
  obtain ⟨p, q, hA0, hV, rfl, hfz, hnd⟩ := hW
  have hA : DataW.TrodAll enc Tryz.prog W 0 (fun _ => true) true Tryz.f3.params.toList args.toList ds p := hA0
  rw [Tryz.params3] at hA hval hsz
  obtain ⟨v0, vs0, d0, ds0, p0, q0, hargs, rfl, rfl, h0, r0⟩ := trodAll_cons hA
  obtain ⟨v1, vs1, d1, ds1, p1, q1, rfl, rfl, rfl, h1, r1⟩ := trodAll_cons r0
  obtain ⟨v2, vs2, d2, ds2, p2, q2, rfl, rfl, rfl, h2, r2⟩ := trodAll_cons r1
  obtain ⟨rfl, rfl, rfl⟩ := trodAll_nil r2
  obtain rfl : args = #[v0, v1, v2] := by cases args; simp_all
  obtain ⟨rfl, rfl⟩ := trodVars_none hV
  obtain ⟨a0, rfl, rfl, rfl, y0⟩ := open_string Tryz.underlying9 (hval 0 9 v0 rfl rfl) h0
  obtain ⟨a1, rfl, rfl, rfl, y1⟩ := open_string Tryz.underlying9 (hval 1 9 v1 rfl rfl) h1
  obtain ⟨a2, len2, cap2, rfl⟩ := okWide_slice Tryz.underlying22 (hval 2 22 v2 rfl rfl)
  have k2 := h2
  have lt2 : ∀ x ∈ p2, x.block < W.heap.size := by obtain ⟨m, hm⟩ := k2; exact DataW.trod_lt m _ _ _ hm
  obtain ⟨z2, e2, w2, y2, c2⟩ := _root_.Go.Proofs.YtieompfmhnpnaaaGreat.H.open_params hsz (j := 2) rfl rfl h2
  subst e2
  clear hA0 hval0 hsz0 hsz
  obtain ⟨k, hk⟩ := (_root_.Go.Proofs.YtieompfmhnpnaaaGreat.H.hparams_ev a0 a1 z2 ).rounds
  refine (_root_.Go.Proofs.YtieompfmhnpnaaaGreat.H.missivelaw09_HeaderParams.calls k a0 a1 a2 cap2 z2 true W c2 w2 hk).mono fun e W' ⟨he, bel⟩ => ?_
  subst he
  exact ⟨_, rfl, _, _, _, [], _, [], hW', trodAll_mk1 (shut_bool Tryz.underlying4 _), (trodAll_cons_mk (shut_string Tryz.underlying9 y0) (trodAll_cons_mk (shut_string Tryz.underlying9 y1) (trodAll_cons_mk (Below.trod laidOut (by kernel_rfl) (of_decide_eq_true (by kernel_rfl)) k2 bel lt2) trodAll_mk0))), rfl, bel.frame _, fun h => by cases h⟩
theorem over : Rows.headerParamsRow.holds Tryz.pinned (OpenSpec.ofChange Rows.headerParamsSpec) :=
  OpenClaim.holds_of_wide 3 Tryz.f3 rfl rfl rfl rfl rfl rfl rfl ⟨rfl, rfl, rfl, rfl, rfl⟩ rfl rfl rfl rfl rfl (by kernel_rfl) Tryz.func3 (by kernel_rfl)
    (of_decide_eq_true (by kernel_rfl)) (by unfold Func.isWrapper; first | (rw [if_pos (by decide +kernel)]; kernel_rfl) | (rw [if_neg (by decide +kernel)]; exact ⟨rfl, rfl⟩))
    (fun os started H enc _ => lifted os started H enc)
theorem proved : Rows.HeaderParamsSaid := over
#print axioms proved
end Go.Proofs.YtieompfmhnpnaaaGreat.headerParams
namespace Go.Proofs.YtieompfmhnpnaaaGreat
theorem headerParams_holds : Rows.HeaderParamsSaid := headerParams.proved
end Go.Proofs.YtieompfmhnpnaaaGreat
end
