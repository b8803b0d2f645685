/- Plain facts: bytes and lists; what the small printed functions come to. -/
import Derived.Test.YtieompfmhnpnaaaGreatB0
import Derived.Test.YtieompfmhnpnaaaGreatBa
import Derived.Test.YtieompfmhnpnaaaGreatBb
import Derived.Test.YtieompfmhnpnaaaGreatXFold
-- needs: header_isName text_Trim text_white header_visible
namespace Go.Proofs.YtieompfmhnpnaaaGreat.H
open Go.RowKit Go.Proofs.YtieompfmhnpnaaaGreatW.PrintWords Go.Proofs.YtieompfmhnpnaaaGreatW.PrintLast Go.Proofs.YtieompfmhnpnaaaGreatW.PrintMore
set_option linter.unusedVariables false
set_option linter.unusedSimpArgs false

/-! ### bytes and lists -/
/-- A string's bytes. -/
abbrev bl (s : ByteArray) : List UInt8 := s.data.toList
/-- The string of some bytes. -/
abbrev mkB (l : List UInt8) : ByteArray := ⟨l.toArray⟩
theorem bl_mkB (l : List UInt8) : bl (mkB l) = l := rfl
theorem mkB_bl (s : ByteArray) : mkB (bl s) = s := rfl
theorem bl_length (s : ByteArray) : (bl s).length = s.size := by simp
theorem mkB_size (l : List UInt8) : (mkB l).size = l.length := by simp [ByteArray.size]
theorem bl_inj {s t : ByteArray} (h : bl s = bl t) : s = t := by rw [← mkB_bl s, ← mkB_bl t, h]
theorem toList_bl (s : ByteArray) : s.toList = bl s := Lib.toList_data s
theorem bl_append (s t : ByteArray) : bl (s ++ t) = bl s ++ bl t := by simp [bl]
theorem bl_extract (s : ByteArray) (i j : Nat) : bl (s.extract i j) = ((bl s).take j).drop i := by
  simp [bl]
  rw [List.drop_take]
/-- A test in a function of rounds. -/
theorem ev_yes {α : Type} {c : Prop} [Decidable c] {a b : Nat → Option α} {r : α} (h : c) (k : Ev a r) : Ev (fun n => if c then a n else b n) r := by
  refine Ev.congr (fun n => ?_) k
  rw [if_pos h]
theorem ev_no {α : Type} {c : Prop} [Decidable c] {a b : Nat → Option α} {r : α} (h : ¬ c) (k : Ev b r) : Ev (fun n => if c then a n else b n) r := by
  refine Ev.congr (fun n => ?_) k
  rw [if_neg h]
theorem ev_done {α : Type} {a r : α} (h : a = r) : Ev (fun _ => some a) r := by
  rw [h]
  exact Ev.now r
theorem bt_byteAt (s : ByteArray) (i : Nat) (h : i < s.size) : bt s (i : Int) = ((byteAt s i).toNat : Int) := by
  rw [← bt_at s i (by simpa using h), byteAt_get s _ (by simpa using h)]
  rfl
theorem byteAt_list (s : ByteArray) (i : Nat) (h : i < s.size) : (bl s)[i]? = some (byteAt s i) := by
  unfold byteAt
  rw [List.getElem?_eq_getElem (by rw [bl_length]; exact h), List.getD_eq_getElem?_getD, List.getElem?_eq_getElem (by rw [bl_length]; exact h)]
  rfl
theorem drop_byteAt (s : ByteArray) (i : Nat) (h : i < s.size) : (bl s).drop i = byteAt s i :: (bl s).drop (i + 1) := by
  have hl := bl_length s
  rw [List.drop_eq_getElem_cons (by omega)]
  have := byteAt_list s i h
  rw [List.getElem?_eq_getElem (by omega)] at this
  rw [Option.some.inj this]
theorem take_byteAt (s : ByteArray) (i : Nat) (h : i < s.size) : (bl s).take (i + 1) = (bl s).take i ++ [byteAt s i] := by
  have hl := bl_length s
  rw [List.take_succ_eq_append_getElem (by omega)]
  have := byteAt_list s i h
  rw [List.getElem?_eq_getElem (by omega)] at this
  rw [Option.some.inj this]
theorem wrap_up (i : Nat) (h : i < 4611686018427387904) : wrap64 ((i : Int) + 1) = ((i + 1 : Nat) : Int) := by
  unfold wrap64; omega
theorem wrap_down (i : Nat) (h0 : 0 < i) (h : i < 4611686018427387904) : wrap64 ((i : Int) - 1) = ((i - 1 : Nat) : Int) := by
  unfold wrap64; omega

/-! ### white bytes, Trim -/
/-- Is a byte white? -/
def wsB (c : UInt8) : Bool := c == 9 || c == 10 || c == 13 || c == 32
theorem u8_eq (c : UInt8) (n : Nat) (hn : n < 256) : (c == UInt8.ofNat n) = decide ((c.toNat : Int) = (n : Int)) := by
  rw [Bool.eq_iff_iff]
  simp
  constructor
  · rintro rfl; simp; omega
  · intro h
    have : c.toNat = n := by omega
    rw [← this]; simp
theorem white_at (c : UInt8) : text_white.f (c.toNat : Int) = some (wsB c) := by
  unfold text_white.f wsB
  have e9 := u8_eq c 9 (by decide)
  have e10 := u8_eq c 10 (by decide)
  have e13 := u8_eq c 13 (by decide)
  have e32 := u8_eq c 32 (by decide)
  simp at e9 e10 e13 e32
  rw [e9, e10, e13, e32]
  by_cases h9 : (c.toNat : Int) = 9
  · simp [h9]
  · by_cases h10 : (c.toNat : Int) = 10
    · simp [h10]
    · by_cases h13 : (c.toNat : Int) = 13
      · simp [h13]
      · rw [if_neg h9, if_neg h10, if_neg h13]
        have g9 : ¬ c.toNat = 9 := by omega
        have g10 : ¬ c.toNat = 10 := by omega
        have g13 : ¬ c.toNat = 13 := by omega
        simp [g9, g10, g13]
        rw [Bool.eq_iff_iff]
        simp
        omega

/-- Without white bytes at the end. -/
def rtrim (l : List UInt8) : List UInt8 := (l.reverse.dropWhile wsB).reverse
theorem rtrim_snoc (l : List UInt8) (c : UInt8) : rtrim (l ++ [c]) = if wsB c then rtrim l else l ++ [c] := by
  unfold rtrim
  rw [List.reverse_append]
  simp [List.dropWhile_cons]
  split <;> simp
theorem rtrim_nil : rtrim [] = [] := rfl
/-- Without white bytes at both ends. -/
def trimL (l : List UInt8) : List UInt8 := rtrim (l.dropWhile wsB)
def trimS (s : ByteArray) : ByteArray := mkB (trimL (bl s))

theorem trim_l1 (s : ByteArray) (hs : s.size ≤ 1099511627776) (i : Nat) : ∀ (n j : Nat), i ≤ j → j ≤ s.size → j - i = n →
    Ev (fun k => text_Trim.l1 k s (i : Int) (j : Int)) (mkB (rtrim (((bl s).take j).drop i)))
  | 0, j, hi, hj, hn => by
    obtain rfl : i = j := by omega
    refine Ev.step (fun k => by simp only [text_Trim.l1]; rfl) ?_
    refine ev_no (by omega) ?_
    refine ev_yes (by omega) ?_
    refine ev_yes (by omega) ?_
    refine ev_yes (by omega) ?_
    have : ((bl s).take i).drop i = [] := by simp
    rw [this, rtrim_nil]
    refine ev_done ?_
    apply bl_inj
    rw [bl_extract]
    simp
  | n + 1, j, hi, hj, hn => by
    have hlt : i < j := by omega
    have hw := wrap_down j (by omega) (by omega)
    refine Ev.step (fun k => by simp only [text_Trim.l1]; rfl) ?_
    have h1 : (i : Int) < (j : Int) := by omega
    have h2 : 0 ≤ ((j - 1 : Nat) : Int) := by omega
    have h3 : ((j - 1 : Nat) : Int) < (s.size : Int) := by omega
    have hb := bt_byteAt s (j - 1) (by omega)
    have ht := take_byteAt s (j - 1) (by omega)
    rw [show j - 1 + 1 = j from by omega] at ht
    have hd : ((bl s).take j).drop i = ((bl s).take (j - 1)).drop i ++ [byteAt s (j - 1)] := by
      rw [ht, List.drop_append_of_le_length (by rw [List.length_take, bl_length]; omega)]
    refine ev_yes h1 ?_
    simp only [hw]
    refine ev_yes h2 (ev_yes h3 ?_)
    simp only [hb, white_at, Option.bind_some]
    rw [hd, rtrim_snoc]
    by_cases hws : wsB (byteAt s (j - 1)) = true
    · rw [hws]
      exact ev_yes rfl (trim_l1 s hs i n (j - 1) (by omega) (by omega) (by omega))
    · have hws' : wsB (byteAt s (j - 1)) = false := by simpa using hws
      rw [hws']
      refine ev_no (by decide) ?_
      refine ev_yes (by omega) (ev_yes (by omega) (ev_yes (by omega) ?_))
      refine ev_done ?_
      apply bl_inj
      rw [bl_extract, if_neg (by decide), bl_mkB, ← hd]
      simp
theorem trim_l0 (s : ByteArray) (hs : s.size ≤ 1099511627776) : ∀ (n i : Nat), i + n = s.size →
    Ev (fun k => text_Trim.l0 k s (i : Int) (s.size : Int)) (mkB (trimL ((bl s).drop i)))
  | 0, i, hi => by
    have hl := bl_length s
    refine Ev.step (fun k => by simp only [text_Trim.l0]; rfl) ?_
    refine ev_no (by omega) ?_
    refine Ev.step (fun k => by simp only [text_Trim.j1]; rfl) ?_
    have := trim_l1 s hs i 0 s.size (by omega) (by omega) (by omega)
    have e : (bl s).drop i = [] := List.drop_of_length_le (by omega)
    rw [e]
    rw [List.take_of_length_le (by omega), e] at this
    exact this
  | n + 1, i, hi => by
    have hl := bl_length s
    refine Ev.step (fun k => by simp only [text_Trim.l0]; rfl) ?_
    have hb := bt_byteAt s i (by omega)
    refine ev_yes (by omega) ?_
    refine ev_yes (by omega) ?_
    refine ev_yes (by omega) ?_
    simp only [hb, white_at, Option.bind_some]
    rw [drop_byteAt s i (by omega)]
    by_cases hws : wsB (byteAt s i) = true
    · simp only [hws, if_true]
      have e : trimL (byteAt s i :: (bl s).drop (i + 1)) = trimL ((bl s).drop (i + 1)) := by
        unfold trimL
        rw [List.dropWhile_cons_of_pos hws]
      rw [e, wrap_up i (by omega)]
      exact trim_l0 s hs n (i + 1) (by omega)
    · simp only [hws, if_false]
      refine Ev.step (fun k => by simp only [text_Trim.j1]; rfl) ?_
      have := trim_l1 s hs i (s.size - i) s.size (by omega) (by omega) (by omega)
      rw [List.take_of_length_le (by omega), drop_byteAt s i (by omega)] at this
      unfold trimL
      rw [List.dropWhile_cons_of_neg hws]
      exact this
theorem trim_ev (s : ByteArray) (hs : s.size ≤ 1099511627776) : Ev (fun k => text_Trim.f k s) (trimS s) := by
  have := trim_l0 s hs s.size 0 (by omega)
  simpa [text_Trim.f, trimS] using this
theorem trim_size (s : ByteArray) : (trimS s).size ≤ s.size := by
  unfold trimS
  rw [mkB_size]
  have h1 : (trimL (bl s)).length ≤ (bl s).length := by
    unfold trimL rtrim
    rw [List.length_reverse]
    refine Nat.le_trans (List.dropWhile_suffix _).length_le ?_
    rw [List.length_reverse]
    exact (List.dropWhile_suffix _).length_le
  rw [bl_length] at h1
  exact h1

/-! ### field names -/
def visB (c : UInt8) : Bool := 33 ≤ c.toNat && c.toNat ≤ 126
theorem visible_at (c : UInt8) : header_visible.f (c.toNat : Int) = some (visB c) := by
  unfold header_visible.f visB
  by_cases h : 33 ≤ c.toNat
  · rw [if_pos (by omega)]
    simp [h]
    omega
  · rw [if_neg (by omega)]
    simp [h]
/-- Is it a field name? -/
def isNameB (s : ByteArray) : Bool := 1 ≤ s.size && s.size ≤ 200 && (bl s).all (fun c => visB c && c != 58)
theorem isName_l0 (s : ByteArray) (hs : s.size ≤ 1099511627776) : ∀ (n i : Nat), i + n = s.size →
    Ev (fun k => header_isName.l0 k s (s.size : Int) (i : Int)) (((bl s).drop i).all (fun c => visB c && c != 58))
  | 0, i, hi => by
    have hl := bl_length s
    refine Ev.step (fun k => by simp only [header_isName.l0]; rfl) ?_
    refine ev_no (by omega) ?_
    exact ev_done (by rw [List.drop_of_length_le (by omega)]; rfl)
  | n + 1, i, hi => by
    refine Ev.step (fun k => by simp only [header_isName.l0]; rfl) ?_
    have hb := bt_byteAt s i (by omega)
    refine ev_yes (by omega) ?_
    refine ev_yes (by omega) ?_
    refine ev_yes (by omega) ?_
    simp only [hb, visible_at, Option.bind_some]
    rw [drop_byteAt s i (by omega), List.all_cons]
    have e58 := u8_eq (byteAt s i) 58 (by decide)
    simp at e58
    by_cases hv : visB (byteAt s i) = true
    · simp only [hv, if_true, Bool.true_and]
      by_cases h58 : ((byteAt s i).toNat : Int) = 58
      · have h58' : (byteAt s i).toNat = 58 := by omega
        have h2 : (byteAt s i != 58) = false := by
          rw [bne_eq_false_iff_eq]
          exact UInt8.toNat_inj.1 (by simpa using h58')
        rw [h2]
        simp only [if_pos h58, Bool.false_and]
        exact Ev.now _
      · have h2 : (byteAt s i != 58) = true := by
          rw [bne_iff_ne]
          intro h
          rw [h] at h58
          exact h58 rfl
        rw [h2]
        simp only [Bool.true_and]
        refine ev_no h58 ?_
        rw [wrap_up i (by omega)]
        exact isName_l0 s hs n (i + 1) (by omega)
    · have hv' : visB (byteAt s i) = false := by simpa using hv
      simp only [hv', Bool.false_and]
      exact Ev.now _
theorem isName_ev (s : ByteArray) (hs : s.size ≤ 1099511627776) : Ev (fun k => header_isName.f k s) (isNameB s) := by
  unfold header_isName.f isNameB
  by_cases h1 : s.size < 1
  · simp only [show ((s.size : Int) < 1) from by omega, if_true]
    refine Ev.step (fun k => by simp only [header_isName.j0]; rfl) ?_
    have : decide (1 ≤ s.size) = false := by simpa using h1
    simp only [if_true, this, Bool.false_and]
    exact Ev.now _
  · simp only [show ¬ ((s.size : Int) < 1) from by omega, if_false]
    refine Ev.step (fun k => by simp only [header_isName.j0]; rfl) ?_
    by_cases h2 : s.size > 200
    · have e : decide ((s.size : Int) > 200) = true := by simp; omega
      have e2 : decide (s.size ≤ 200) = false := by simp; omega
      simp only [e, if_true, e2, Bool.and_false, Bool.false_and]
      exact Ev.now _
    · have e : decide ((s.size : Int) > 200) = false := by simp; omega
      have e2 : decide (s.size ≤ 200) = true := by simp; omega
      have e1 : decide (1 ≤ s.size) = true := by simp; omega
      simp only [e, e1, e2, Bool.and_true, Bool.true_and]
      have := isName_l0 s hs s.size 0 (by omega)
      simpa using this
end Go.Proofs.YtieompfmhnpnaaaGreat.H
