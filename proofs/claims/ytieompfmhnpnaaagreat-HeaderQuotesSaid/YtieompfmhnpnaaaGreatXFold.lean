/- Contracts by hand: header.foldAt and its closure. -/
import Derived.Test.YtieompfmhnpnaaaGreatB0
import Derived.Test.YtieompfmhnpnaaaGreatBb
import Derived.Test.YtieompfmhnpnaaaGreatXStr
import Derived.Deep.QuietTactic
import Derived.BigQuiet
-- needs: header_blank
namespace Go.Proofs.YtieompfmhnpnaaaGreat.H
open Go.RowKit Go.Proofs.YtieompfmhnpnaaaGreatW.PrintWords Go.Proofs.YtieompfmhnpnaaaGreatW.PrintLast Go.Proofs.YtieompfmhnpnaaaGreatW.PrintMore
set_option linter.unusedVariables false
set_option linter.unusedSimpArgs false

/-- The byte at a place. -/
def byteAt (s : ByteArray) (i : Nat) : UInt8 := s.data.toList.getD i 0
theorem byteAt_get (s : ByteArray) (i : Nat) (h : i < s.size) : s[i] = byteAt s i := by
  unfold byteAt
  have hl : s.data.toList.length = s.size := by simp
  rw [List.getD_eq_getElem?_getD, List.getElem?_eq_getElem (by omega)]
  simp
  rfl
/-- Is it a space or a tab? -/
def blankB (c : UInt8) : Bool := c == 32 || c == 9
theorem blank_at (c : UInt8) : header_blank.f (c.toNat : Int) = some (blankB c) := by
  unfold header_blank.f blankB
  have e : ∀ n : Nat, n < 256 → ((c == UInt8.ofNat n) = decide (c.toNat = n)) := fun n hn => by
    rw [Bool.eq_iff_iff]
    simp
    constructor
    · rintro rfl; simp; omega
    · intro h; rw [← h]; simp
  have e1 := e 32 (by decide)
  have e2 := e 9 (by decide)
  simp at e1 e2
  rw [e1, e2]
  by_cases h : c.toNat = 32
  · simp [h]
  · by_cases h2 : c.toNat = 9
    · simp [h2]
    · have h3 : ¬ ((c.toNat : Int) = 32) := by omega
      have h4 : ¬ ((c.toNat : Int) = 9) := by omega
      simp [h, h2, h3, h4]
/-- Is there a fold at a place (one that is not the first nor the last)? -/
def isFoldB (s : ByteArray) (i : Nat) : Bool := byteAt s i == 32 && !blankB (byteAt s (i - 1)) && !blankB (byteAt s (i + 1))

set_option maxRecDepth 100000 in
set_option maxHeartbeats 1000000 in
theorem isFold_calls (s : ByteArray) (i b : Nat) (w : World) (hs : s.size ≤ 1099511627776) (hb : w.cell? ⟨b, 0, none⟩ = some (.string s)) (h1 : 1 ≤ i) (h2 : i + 1 < s.size) :
    Calls Tryz.prog 96 #[.int .i64 i, .pointer (some ⟨b, 0, none⟩)] w fun e w' => e = .returned (.bool (isFoldB s i)) ∧ Drawn0 w w' := by
  have k0 := byteAt_get s i (by omega)
  have k1 := byteAt_get s (i - 1) (by omega)
  have k2 := byteAt_get s (i + 1) (by omega)
  have j1 : ((i : Int) - 1).toNat = i - 1 := by omega
  have j2 : (0 : Int) ≤ (i : Int) - 1 := by omega
  have j3 : ((i : Int) + 1).toNat = i + 1 := by omega
  have j4 : (0 : Int) ≤ (i : Int) + 1 := by omega
  by_cases c1 : byteAt s i = 32
  · have hb1 : (((byteAt s i).toNat : Int) == 32) = true := by rw [c1]; rfl
    have B1 := Lib.hid (blank_at (byteAt s (i - 1)))
    by_cases c2 : blankB (byteAt s (i - 1)) = true
    · have E := Lib.hid (show isFoldB s i = false by simp [isFoldB, c2])
      have C2 := Lib.hid c2
      clear c1 c2 k2
      go_enter Tryz.func96, Tryz.ntmps96
      go_wp2_with fail
      refine (header_blank.calls _ _ _ B1.out).mono ?_
      rintro e w1 ⟨rfl, ⟨n, rfl⟩⟩
      rw [C2.out]
      go_wp2_with fail
      go_ret
      exact ⟨by rw [E.out]; rfl, ⟨n, rfl⟩⟩
    · have c2' : blankB (byteAt s (i - 1)) = false := by simpa using c2
      have B2 := Lib.hid (blank_at (byteAt s (i + 1)))
      have E := Lib.hid (show isFoldB s i = !blankB (byteAt s (i + 1)) by simp [isFoldB, c1, c2'])
      have C2 := Lib.hid c2'
      clear c1 c2 c2'
      go_enter Tryz.func96, Tryz.ntmps96
      go_wp2_with fail
      refine (header_blank.calls _ _ _ B1.out).mono ?_
      rintro e w1 ⟨rfl, ⟨n, rfl⟩⟩
      rw [C2.out]
      go_wp2_with fail
      refine (header_blank.calls _ _ _ B2.out).mono ?_
      rintro e w2 ⟨rfl, ⟨m, rfl⟩⟩
      go_wp2_with fail
      go_ret
      exact ⟨by rw [E.out]; rfl, ⟨n + m, rfl⟩⟩
  · have hne : ((byteAt s i).toNat : Int) ≠ 32 := fun h => c1 (by
      have : (byteAt s i).toNat = 32 := by omega
      exact UInt8.toNat_inj.1 (by simpa using this))
    have hb1 : (((byteAt s i).toNat : Int) == 32) = false := by simpa using hne
    have E := Lib.hid (show isFoldB s i = false by simp [isFoldB, c1])
    clear c1 hne k1 k2
    go_enter Tryz.func96, Tryz.ntmps96
    go_wp2_with fail
    go_ret
    exact ⟨by rw [E.out]; rfl, Drawn0.refl _⟩

/-- The greatest i of lo+1 .. n that has p; 0 if there is none. -/
def downTo (p : Nat → Bool) (lo : Nat) : Nat → Nat
  | 0 => 0
  | n + 1 => if n + 1 ≤ lo then 0 else if p (n + 1) then n + 1 else downTo p lo n
/-- The least i of i .. i+f-1 that has p; 0 if there is none. -/
def upTo (p : Nat → Bool) : Nat → Nat → Nat
  | _, 0 => 0
  | i, f + 1 => if p i then i else upTo p (i + 1) f
/-- Where the first line of a field ends, or 0. -/
def foldAtS (s : ByteArray) (bound : Nat) : Nat :=
  let last := min 998 (s.size - 2)
  let d := downTo (isFoldB s) bound (min 78 last)
  if d = 0 then upTo (isFoldB s) (max 78 bound + 1) (last - max 78 bound) else d

theorem downTo_low (p : Nat → Bool) (lo n : Nat) (h : n ≤ lo) : downTo p lo n = 0 := by
  cases n with
  | zero => rfl
  | succ n => unfold downTo; rw [if_pos h]
theorem downTo_yes (p : Nat → Bool) (lo n : Nat) (h : lo < n) (hp : p n = true) : downTo p lo n = n := by
  cases n with
  | zero => omega
  | succ n => unfold downTo; rw [if_neg (by omega), if_pos hp]
theorem downTo_no (p : Nat → Bool) (lo n : Nat) (h : lo < n) (hp : p n = false) : downTo p lo n = downTo p lo (n - 1) := by
  cases n with
  | zero => omega
  | succ n =>
    conv => lhs; unfold downTo
    rw [if_neg (by omega), if_neg (by simp [hp])]
    rfl

theorem foldAtS_down (s : ByteArray) (bound n L M : Nat) (hL : L = min 998 (s.size - 2)) (hM : min 78 L = M) (h : downTo (isFoldB s) bound M = n) (hn : n ≠ 0) : foldAtS s bound = n := by
  unfold foldAtS
  simp only
  rw [← hL, hM, h, if_neg hn]
theorem foldAtS_up (s : ByteArray) (bound L M : Nat) (hL : L = min 998 (s.size - 2)) (hM : min 78 L = M) (h : downTo (isFoldB s) bound M = 0) : foldAtS s bound = upTo (isFoldB s) (max 78 bound + 1) (L - max 78 bound) := by
  unfold foldAtS
  simp only
  rw [← hL, hM, h, if_pos rfl]
theorem upTo_yes (p : Nat → Bool) (i L : Nat) (h : i ≤ L) (hp : p i = true) : upTo p i (L + 1 - i) = i := by
  rw [show L + 1 - i = (L - i) + 1 from by omega]
  unfold upTo
  rw [if_pos hp]
theorem upTo_no (p : Nat → Bool) (i L : Nat) (h : i ≤ L) (hp : p i = false) : upTo p i (L + 1 - i) = upTo p (i + 1) (L + 1 - (i + 1)) := by
  rw [show L + 1 - i = (L + 1 - (i + 1)) + 1 from by omega]
  conv => lhs; unfold upTo
  rw [if_neg (by simp [hp])]
theorem upTo_end (p : Nat → Bool) (i L : Nat) (h : L < i) : upTo p i (L + 1 - i) = 0 := by
  rw [show L + 1 - i = 0 from by omega]
  rfl

theorem drawn_trans {a b c : World} (h : Drawn0 a b) (k : Drawn0 b c) : Drawn0 a c := by
  obtain ⟨n, rfl⟩ := h
  obtain ⟨m, rfl⟩ := k
  exact ⟨n + m, World.drewN_drewN ..⟩
theorem drawn_below {a b : World} (h : Drawn0 a b) {B : Nat} : Below B a b := by
  obtain ⟨n, rfl⟩ := h
  exact pw_below_drewN (Below.refl _ _) n
theorem drawn_cell {a b : World} (h : Drawn0 a b) (p : Addr) : b.cell? p = a.cell? p := by
  obtain ⟨n, rfl⟩ := h
  rfl

set_option maxRecDepth 100000 in
set_option maxHeartbeats 2000000 in
theorem foldAt_calls (s : ByteArray) (bound : Nat) (w : World) (hs : s.size ≤ 1099511627776) (h78 : 78 < s.size) (hb : bound ≤ 1000) :
    Calls Tryz.prog 84 #[.string s, .int .i64 bound] w fun e w' => e = .returned (.int .i64 (foldAtS s bound)) ∧ Below w.heap.size w w' := by
  obtain ⟨L, hL⟩ : ∃ L, L = min 998 (s.size - 2) := ⟨_, rfl⟩
  have e1 : min (998 : Int) ((s.size : Int) - 2) = (L : Int) := by omega
  have e2 : min (78 : Int) (L : Int) = ((min 78 L : Nat) : Int) := by omega
  have l1 : 77 ≤ L := by omega
  have l2 : L + 1 < s.size := by omega
  have l3 : L ≤ 998 := by omega
  have m1 : min 78 L ≤ L := by omega
  have m2 : 77 ≤ min 78 L := by omega
  have E1 := Lib.hid e1
  have E2 := Lib.hid e2
  have HL := Lib.hid hL
  clear e1 e2 hL
  obtain ⟨W, hW⟩ : ∃ W, W = w.alloc (Obj.cells #[Value.string s] 9) := ⟨_, rfl⟩
  have hcell : W.cell? ⟨w.heap.size, 0, none⟩ = some (.string s) := by rw [hW]; simp
  have hBW : Below w.heap.size w W := by rw [hW]; exact (Below.refl _ _).alloc (Nat.le_refl _) _
  have HW := Aside0.mk hW
  clear hW
  go_enter Tryz.func84, Tryz.ntmps84
  go_wp2_with fail
  rw [E1.out, E2.out, ← HW.out]
  generalize hM : min 78 L = M at m1 m2 ⊢
  have HM := Lib.hid hM
  clear hM
  go_loopw [7] (fun v wr => ∃ n : Nat, n ≤ M ∧ v = .int .i64 n ∧ Aside0 (downTo (isFoldB s) bound M = downTo (isFoldB s) bound n) ∧ Drawn0 W wr) (fun v _ => (intOf v).toNat)
  case atStart => exact ⟨M, Nat.le_refl _, rfl, ⟨rfl⟩, Drawn0.refl _⟩
  case round =>
    obtain ⟨n, hn, rfl, hd, hdr⟩ := hrel
    by_cases hlt : bound < n
    · have hc := (drawn_cell hdr ⟨w.heap.size, 0, none⟩).trans hcell
      have hif := isFold_calls s n w.heap.size wr hs hc (by omega) (by omega)
      have HIF := Aside0.mk hif
      clear hif
      by_cases hp : isFoldB s n = true
      · have HP := Lib.hid hp
        have HX := Lib.hid (downTo_yes (isFoldB s) bound n hlt hp)
        clear hp
        go_wp2_with fail
        refine (HIF.out).mono ?_
        rintro e w2 ⟨rfl, hd2⟩
        rw [HP.out]
        go_wp2_with fail
        go_ret
        have hf := foldAtS_down s bound n L M HL.out HM.out (hd.out.trans HX.out) (by omega)
        exact ⟨by rw [hf]; rfl, hBW.trans (drawn_below (drawn_trans hdr hd2))⟩
      · have hp' : isFoldB s n = false := by simpa using hp
        have HP := Lib.hid hp'
        have HX := Lib.hid (downTo_no (isFoldB s) bound n hlt hp')
        clear hp hp'
        go_wp2_with fail
        refine (HIF.out).mono ?_
        rintro e w2 ⟨rfl, hd2⟩
        rw [HP.out]
        go_wp2_with fail
        go_roundw
        case rel => exact ⟨n - 1, by omega, congrArg (Value.int .i64) (by omega), ⟨hd.out.trans HX.out⟩, drawn_trans hdr hd2⟩
        case measure => simp [intOf]; omega
    · have hz := hd.out.trans (downTo_low (isFoldB s) bound n (by omega))
      have HF := Lib.hid (foldAtS_up s bound L M HL.out HM.out hz)
      obtain ⟨mx, hmx⟩ : ∃ mx, mx = max 78 bound := ⟨_, rfl⟩
      have e3 : max (78 : Int) (bound : Int) = (mx : Int) := by omega
      have E3 := Lib.hid e3
      have mx1 : 78 ≤ mx := by omega
      have mx2 : mx ≤ 1000 := by omega
      rw [← hmx] at HF
      clear hmx e3 hz hd
      go_wp2_with fail
      rw [E3.out]
      obtain ⟨w4, hw4⟩ : ∃ w4 : World, w4 = wr := ⟨_, rfl⟩
      subst hw4
      go_loopw [8] (fun v wr => ∃ i : Nat, mx + 1 ≤ i ∧ i ≤ max (L + 1) (mx + 1) ∧ v = .int .i64 i ∧ Aside0 (upTo (isFoldB s) (mx + 1) (L - mx) = upTo (isFoldB s) i (L + 1 - i)) ∧ Drawn0 W wr) (fun v _ => L + 1 - (intOf v).toNat)
      case atStart => exact ⟨mx + 1, Nat.le_refl _, by omega, by go_num, ⟨by rw [show L + 1 - (mx + 1) = L - mx from by omega]⟩, hdr⟩
      case round =>
        clear hdr
        obtain ⟨i, hi1, hi2, rfl, hd, hdr⟩ := hrel
        by_cases hle : i ≤ L
        · have hc := (drawn_cell hdr ⟨w.heap.size, 0, none⟩).trans hcell
          have hif := isFold_calls s i w.heap.size wr hs hc (by omega) (by omega)
          have HIF := Aside0.mk hif
          clear hif
          by_cases hp : isFoldB s i = true
          · have HP := Lib.hid hp
            have HX := Lib.hid (upTo_yes (isFoldB s) i L hle hp)
            clear hp
            go_wp2_with fail
            refine (HIF.out).mono ?_
            rintro e w2 ⟨rfl, hd2⟩
            rw [HP.out]
            go_wp2_with fail
            go_ret
            exact ⟨by rw [HF.out, hd.out, HX.out]; rfl, hBW.trans (drawn_below (drawn_trans hdr hd2))⟩
          · have hp' : isFoldB s i = false := by simpa using hp
            have HP := Lib.hid hp'
            have HX := Lib.hid (upTo_no (isFoldB s) i L hle hp')
            clear hp hp'
            go_wp2_with fail
            refine (HIF.out).mono ?_
            rintro e w2 ⟨rfl, hd2⟩
            rw [HP.out]
            go_wp2_with fail
            go_roundw
            case rel => exact ⟨i + 1, by omega, by omega, by go_num, ⟨hd.out.trans HX.out⟩, drawn_trans hdr hd2⟩
            case measure => simp [intOf]; omega
        · have HX := Lib.hid (upTo_end (isFoldB s) i L (by omega))
          go_wp2_with fail
          go_ret
          exact ⟨by rw [HF.out, hd.out, HX.out]; rfl, hBW.trans (drawn_below hdr)⟩
end Go.Proofs.YtieompfmhnpnaaaGreat.H
