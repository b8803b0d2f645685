/- Contracts by hand: text.Lower, missiveref01.Lower, strings.Cut at one byte, strings.IndexByte. -/
import Derived.Test.YtieompfmhnpnaaaGreatB0
import Derived.Test.YtieompfmhnpnaaaGreatBb
import Derived.Test.YtieompfmhnpnaaaGreatShelf
import Derived.Lib.Hide
import Derived.Lib.CutLaws
import Derived.IntWalk
import Derived.Deep.QuietTactic
import Derived.BigQuiet
-- needs: text_lower missiveref01_lower
namespace Go.Proofs.YtieompfmhnpnaaaGreat.H
open Go.RowKit Go.Proofs.YtieompfmhnpnaaaGreatW.PrintWords Go.Proofs.YtieompfmhnpnaaaGreatW.PrintLast Go.Proofs.YtieompfmhnpnaaaGreatW.PrintMore
set_option linter.unusedVariables false
set_option linter.unusedSimpArgs false

/-- A byte in lower case. -/
def lowB (c : UInt8) : UInt8 := if 65 ≤ c.toNat ∧ c.toNat ≤ 90 then c + 32 else c
/-- A string in lower case. -/
def lowS (s : ByteArray) : ByteArray := ⟨(s.data.toList.map lowB).toArray⟩

theorem lowB_nat (c : UInt8) : ((lowB c).toNat : Int) = if 65 ≤ (c.toNat : Int) ∧ (c.toNat : Int) ≤ 90 then (c.toNat : Int) + 32 else c.toNat := by
  unfold lowB
  by_cases h : 65 ≤ c.toNat ∧ c.toNat ≤ 90
  · rw [if_pos h, if_pos (by omega)]
    rw [UInt8.toNat_add]
    simp
    omega
  · rw [if_neg h, if_neg (by omega)]

theorem lower_at (c : UInt8) : text_lower.f (c.toNat : Int) = some ((lowB c).toNat : Int) := by
  unfold text_lower.f
  rw [lowB_nat]
  have := c.toNat_lt
  by_cases h1 : 65 ≤ (c.toNat : Int)
  · by_cases h2 : (c.toNat : Int) ≤ 90
    · rw [if_pos h1, if_pos h2, if_pos ⟨h1, h2⟩]
      congr 1
      omega
    · rw [if_pos h1, if_neg h2, if_neg (fun h => h2 h.2)]
  · rw [if_neg h1, if_neg (fun h => h1 h.1)]

/-- Bytes as numbers. -/
def byteInts (l : List UInt8) : List Int := l.map fun c => (c.toNat : Int)
theorem byteInts_back (l : List UInt8) : strOfNums (byteInts l) = ⟨l.toArray⟩ := by
  unfold strOfNums byteInts
  congr 2
  rw [List.map_map]
  conv => rhs; rw [← List.map_id l]
  apply List.map_congr_left
  intro c _
  simp

theorem info5' : ∃ i, Tryz.prog.info? 5 = some i ∧ i.zero = some (.int .u8 0) ∧ i.size = 1 ∧ i.bytes = 1 := by
  obtain ⟨i0, hi, hz0, hz1, hz2⟩ := info_parts info5
  exact ⟨i0, hi, hz0, hz1, hz2⟩

/-- A row of bytes, k of them in lower case; the others as f tells. -/
def lowRow (s : ByteArray) (f : UInt8 → UInt8) (k : Nat) : List Int := byteInts ((s.data.toList.take k).map lowB ++ (s.data.toList.drop k).map f)

theorem lowRow_length (s : ByteArray) (f : UInt8 → UInt8) (k : Nat) (h : k ≤ s.size) : (lowRow s f k).length = s.size := by
  have : s.data.toList.length = s.size := by simp
  simp [lowRow, byteInts]
  omega

theorem lowRow_at (s : ByteArray) (f : UInt8 → UInt8) (k : Nat) (h : k < s.size) : (lowRow s f k)[k]? = some ((f s[k]).toNat : Int) := by
  have hl : s.data.toList.length = s.size := by simp
  unfold lowRow byteInts
  rw [List.getElem?_map, List.getElem?_append_right (by simp; omega)]
  simp
  rw [Nat.min_eq_left (by omega)]
  simp [h]
  rfl

theorem lowRow_set (s : ByteArray) (f : UInt8 → UInt8) (k : Nat) (h : k < s.size) : (lowRow s f k).set k ((lowB s[k]).toNat : Int) = lowRow s f (k + 1) := by
  have hl : s.data.toList.length = s.size := by simp
  have hk : k < s.data.toList.length := by omega
  unfold lowRow byteInts
  rw [← List.map_set]
  congr 1
  rw [List.set_append_right _ _ (by simp; omega)]
  rw [List.take_succ_eq_append_getElem hk, List.map_append, List.append_assoc]
  congr 1
  have e : s.data.toList.drop k = s.data.toList[k] :: s.data.toList.drop (k + 1) := List.drop_eq_getElem_cons hk
  rw [e]
  simp
  rw [Nat.min_eq_left (by omega)]
  simp
  rfl

theorem lowRow_end (s : ByteArray) (f : UInt8 → UInt8) : strOfNums (lowRow s f s.size) = lowS s := by
  have hl : s.data.toList.length = s.size := by simp
  unfold lowRow
  rw [byteInts_back, List.drop_of_length_le (by omega), List.take_of_length_le (by omega)]
  simp [lowS]

theorem row_numsSet (xs : List Int) (k : Nat) (x : Int) : (nums .u8 xs).set k (.int .u8 x) = nums .u8 (xs.set k x) := by simp [nums, List.map_set]

theorem made_nums (n : Nat) : (madeCells (Value.int .u8 0).cells n).toList = nums .u8 (List.replicate n 0) := by
  apply List.ext_getElem
  · simp [nums, size_madeCells]
  · intro i h1 h2
    simp [madeCells, nums, Value.cells, Nat.mod_one]

/-- What a row of bytes gives when it is turned to a string. -/
theorem row_string {wr : World} {B g : Nat} {n : Nat} {xs : List Int} (h : wr.ownsRow B 5 1 (.slice (some ⟨g, 0, none⟩) n n) n (nums .u8 xs)) (hl : xs.length = n) :
    (convert 45 9 (.slice (some ⟨g, 0, none⟩) n n)).run Tryz.prog wr = .ok (.string (strOfNums xs)) wr := by
  refine run_convert_bytes_arg wr 45 5 Tryz.underlying45 Tryz.underlying5 g 0 n n xs hl ?_ 9 Tryz.underlying9
  intro i hi
  rw [Nat.zero_add, h.cellAt i (by omega)]
  simp [nums, List.getElem?_eq_getElem (show i < xs.length by omega), List.getD]

set_option maxHeartbeats 1000000 in
set_option maxRecDepth 100000 in
theorem mapped_lower (s : ByteArray) (w : World) (hs : s.size ≤ 1099511627776) :
    Calls Tryz.prog 49 #[.string s, .func (.func 50) #[] #[]] w fun e w' => e = .returned (.string (lowS s)) ∧ Below w.heap.size w w' := by
  obtain ⟨i0, hi, hz0, hz1, hz2⟩ := info5'
  have hmk : ∀ W : World, (Instr.makeSlice 45 (.int .i64 (s.size : Int)) (.int .i64 (s.size : Int))).run Tryz.prog W = .ok (.slice (some ⟨W.heap.size, 0, none⟩) s.size s.size) (W.alloc (.cells (madeCells (Value.int .u8 0).cells s.size) 5)) := fun W => by
    have := run_make (P := Tryz.prog) W 45 5 i0 (.int .u8 0) Tryz.underlying45 hi hz0 .i64 .i64 (s.size : Int) (s.size : Int) (by omega) (by omega) (by rw [hz2]; omega) (by omega)
    simpa [hz1] using this
  go_enter Tryz.func49, Tryz.ntmps49
  go_wp2_with fail
  have hrow0 : (w.alloc (Obj.cells (madeCells #[Value.int IntKind.u8 0] s.size) 5)).ownsRow w.heap.size 5 1 (.slice (some ⟨w.heap.size, 0, none⟩) s.size s.size) s.size (nums .u8 (lowRow s (fun _ => 0) 0)) := by
    have e : nums .u8 (lowRow s (fun _ => 0) 0) = (madeCells #[Value.int IntKind.u8 0] s.size).toList := by
      rw [show madeCells #[Value.int IntKind.u8 0] s.size = madeCells (Value.int .u8 0).cells s.size from rfl, made_nums]
      simp [lowRow, byteInts, List.map_const', nums]
    rw [e]
    exact World.ownsRow_lit w _ _ (Nat.le_refl _) (by unfold maxLen; omega) (by rw [size_madeCells]; omega)
  go_loopw [12] (fun i wr => ∃ k : Nat, k ≤ s.size ∧ i = .int .i64 k ∧ wr.ownsRow w.heap.size 5 1 (.slice (some ⟨w.heap.size, 0, none⟩) s.size s.size) s.size (nums .u8 (lowRow s (fun _ => 0) k)) ∧ Below w.heap.size w wr) (fun i _ => s.size - (intOf i).toNat)
  case atStart => exact ⟨0, Nat.zero_le _, rfl, hrow0, (Below.refl _ _).alloc (Nat.le_refl _) _⟩
  case round =>
    obtain ⟨k, hk, rfl, hown, hB⟩ := hrel
    clear hrow0 hmk
    by_cases hlt : k < s.size
    · have hcell : wr.cell? ⟨w.heap.size, k, none⟩ = some (.int .u8 0) := by
        rw [hown.cellAt k (by omega)]
        simp [nums, lowRow_at s (fun _ => 0) k hlt]
      have hfz := hown.frozenAt k
      have hlow := lower_at s[k]
      have HL := Lib.hid hlow
      clear hlow
      have hst := (hown.stored k (.int .u8 (lowB s[k]).toNat)).1
      rw [row_numsSet, lowRow_set s (fun _ => 0) k hlt] at hst
      have HST := Aside0.mk hst
      clear hst
      go_wp2_with fail
      refine (text_lower.calls _ _ _ HL.out).mono ?_
      rintro e w1 ⟨rfl, ⟨n, rfl⟩⟩
      go_wp2_with fail
      go_roundw
      case rel => exact ⟨k + 1, by omega, by go_num, HST.out, pw_below_drewN (hB.setCell (p := ⟨w.heap.size, k, none⟩) (Nat.le_refl _) _) n⟩
      case measure => simp [intOf]; omega
    · have hkk : k = s.size := by omega
      subst hkk
      have hc := row_string hown (lowRow_length s _ _ (Nat.le_refl _))
      rw [lowRow_end] at hc
      go_wp2_with fail
      go_ret
      exact ⟨rfl, hB⟩

/-- The contract's function: text.Lower (strings of at most 2^40 bytes). -/
def text_Lower.f (a0 : ByteArray) : Option ByteArray := if a0.size ≤ 1099511627776 then some (lowS a0) else none
theorem text_Lower.calls (a0 : ByteArray) (r : ByteArray) (w : World) (h : text_Lower.f a0 = some r) :
    Calls Tryz.prog 14 #[.string a0] w fun e w' => e = .returned (.string r) ∧ Below w.heap.size w w' := by
  unfold text_Lower.f at h
  by_cases hs : a0.size ≤ 1099511627776
  · rw [if_pos hs] at h
    obtain rfl := Option.some.inj h
    clear h
    go_enter Tryz.func14, Tryz.ntmps14
    go_wp2_with (go_at_call 49; refine (mapped_lower a0 _ hs).mono ?_; rintro e w1 ⟨rfl, hb⟩)
    go_ret
    exact ⟨rfl, hb⟩
  · rw [if_neg hs] at h
    cases h

/-! ### missiveref01.Lower -/
theorem reflower_at (c : UInt8) : missiveref01_lower.f (c.toNat : Int) = some ((lowB c).toNat : Int) := by
  unfold missiveref01_lower.f
  rw [lowB_nat]
  have := c.toNat_lt
  by_cases h1 : (c.toNat : Int) ≥ 65
  · by_cases h2 : (c.toNat : Int) ≤ 90
    · rw [if_pos h1, if_pos h2, if_pos ⟨h1, h2⟩]
      congr 1
      omega
    · rw [if_pos h1, if_neg h2, if_neg (fun h => h2 h.2)]
  · rw [if_neg h1, if_neg (fun h => h1 h.1)]

/-- A row of bytes, by its cells: what is read and may be written. -/
def RowB (w : World) (g n : Nat) (xs : List Int) : Prop := ∀ j, j < n → w.cell? ⟨g, j, none⟩ = some (.int .u8 (xs.getD j 0)) ∧ w.frozen? ⟨g, j, none⟩ = false

theorem RowB.set {w : World} {g n : Nat} {xs : List Int} (h : RowB w g n xs) (hl : xs.length = n) (k : Nat) (hk : k < n) (x : Int) : RowB (w.setCell ⟨g, k, none⟩ (.int .u8 x)) g n (xs.set k x) := by
  intro j hj
  refine ⟨?_, by rw [World.frozen?_setCell]; exact (h j hj).2⟩
  by_cases e : j = k
  · subst e
    rw [World.cell?_setCell_same' _ _ _ (by rw [(h j hj).1]; rfl)]
    simp [List.getD, hl, hk]
  · have hne : (⟨g, k, none⟩ : Addr) ≠ ⟨g, j, none⟩ := fun h => e (by injection h with _ h2; exact h2.symm)
    rw [World.cell?_setCell_other _ _ _ _ hne, (h j hj).1]
    simp [List.getD, List.getElem?_set, Ne.symm e]

set_option maxHeartbeats 1000000 in
set_option maxRecDepth 100000 in
theorem reflower_body (s : ByteArray) (w : World) (hs : s.size ≤ 1099511627776) :
    Calls Tryz.prog 44 #[.string s] w fun e w' => e = .returned (.string (lowS s)) ∧ Below w.heap.size w w' := by
  have hcv : ∀ W : World, (convert 9 45 (.string s)).run Tryz.prog W = .ok (.slice (some ⟨W.heap.size, 0, none⟩) s.size (grownCap W s.size 0 5)) (Lib.bytesWorld W 5 s) := fun W => Lib.run_convert_string_bytes W 9 45 5 s Tryz.underlying9 Tryz.underlying45 Tryz.underlying5
  go_enter Tryz.func44, Tryz.ntmps44
  go_wp2_with fail
  have hl0 : (lowRow s id 0).length = s.size := lowRow_length s id 0 (Nat.zero_le _)
  have hrow0 : RowB (Lib.bytesWorld w 5 s) w.heap.size s.size (lowRow s id 0) := fun j hj => by
    have hsz : s.data.toList.length = s.size := by simp
    refine ⟨?_, ?_⟩
    · rw [Lib.bytesWorld_cell w 5 s j hj]
      simp [lowRow, byteInts, List.getD, hj]
    · have hb := Lib.bytesWorld_at_new w 5 s
      have hz : s.size ≤ (Lib.bytesCells w 5 s).size := by simp [Lib.bytesCells]
      unfold World.frozen?
      rw [show (Lib.bytesWorld w 5 s).heap[(⟨w.heap.size, j, none⟩ : Addr).block]? = _ from hb]
      simp
      omega
  have hB0 : Below w.heap.size w (Lib.bytesWorld w 5 s) := by
    refine ⟨rfl, rfl, rfl, ?_, fun i hi => Lib.bytesWorld_at_old w 5 s i hi⟩
    rw [Lib.bytesWorld_size]
    omega
  go_loopw [4] (fun i wr => ∃ k : Nat, k ≤ s.size ∧ i = .int .i64 k ∧ RowB wr w.heap.size s.size (lowRow s id k) ∧ Below w.heap.size w wr) (fun i _ => s.size - (intOf i).toNat)
  case atStart => exact ⟨0, Nat.zero_le _, rfl, hrow0, hB0⟩
  case round =>
    obtain ⟨k, hk, rfl, hown, hB⟩ := hrel
    clear hrow0 hcv hB0 hl0
    by_cases hlt : k < s.size
    · have hcell := (hown k hlt).1
      have hfz := (hown k hlt).2
      rw [List.getD_eq_getElem?_getD, lowRow_at s id k hlt] at hcell
      simp only [Option.getD_some, id] at hcell
      have hlow := reflower_at s[k]
      have HL := Lib.hid hlow
      clear hlow
      have hst := hown.set (lowRow_length s id k hk) k hlt ((lowB s[k]).toNat : Int)
      rw [lowRow_set s id k hlt] at hst
      have HST := Aside0.mk hst
      clear hst
      go_wp2_with fail
      refine (missiveref01_lower.calls _ _ _ HL.out).mono ?_
      rintro e w1 ⟨rfl, ⟨n, rfl⟩⟩
      go_wp2_with fail
      go_roundw
      case rel => exact ⟨k + 1, by omega, by go_num, HST.out, pw_below_drewN (hB.setCell (p := ⟨w.heap.size, k, none⟩) (Nat.le_refl _) _) n⟩
      case measure => simp [intOf]; omega
    · have hkk : k = s.size := by omega
      subst hkk
      have hc := fun cap => run_convert_bytes_arg (P := Tryz.prog) wr 45 5 Tryz.underlying45 Tryz.underlying5 w.heap.size 0 s.size cap _ (lowRow_length s id _ (Nat.le_refl _)) (fun i hi => by rw [Nat.zero_add]; exact (hown i hi).1) 9 Tryz.underlying9
      rw [lowRow_end] at hc
      go_wp2_with fail
      go_ret
      exact ⟨rfl, hB⟩

/-- The contract's function: missiveref01.Lower (strings of at most 2^40 bytes). -/
def missiveref01_Lower.f (a0 : ByteArray) : Option ByteArray := if a0.size ≤ 1099511627776 then some (lowS a0) else none
theorem missiveref01_Lower.calls (a0 : ByteArray) (r : ByteArray) (w : World) (h : missiveref01_Lower.f a0 = some r) :
    Calls Tryz.prog 44 #[.string a0] w fun e w' => e = .returned (.string r) ∧ Below w.heap.size w w' := by
  unfold missiveref01_Lower.f at h
  by_cases hs : a0.size ≤ 1099511627776
  · rw [if_pos hs] at h
    obtain rfl := Option.some.inj h
    exact reflower_body a0 w hs
  · rw [if_neg hs] at h
    cases h

/-! ### strings.IndexByte, strings.Cut at one byte -/
/-- The contract's function: the index of the first byte c, or -1. -/
def strings_IndexByte.f (a0 : ByteArray) (a1 : Int) : Option Int := some (Lib.indexByte a0.data.toList a1.toNat.toUInt8)
theorem strings_IndexByte.calls (a0 : ByteArray) (a1 : Int) (r : Int) (w : World) (h : strings_IndexByte.f a0 a1 = some r) :
    Calls Tryz.prog 73 #[.string a0, .int .u8 a1] w fun e w' => e = .returned (.int .i64 r) ∧ Drawn0 w w' := by
  obtain rfl := Option.some.inj h
  exact (Tryz.strings_IndexByte a0 a1 w).mono fun e w' ⟨h1, h2⟩ => ⟨h1, by rw [h2]; exact Drawn0.refl _⟩

/-- Where a string is cut at a byte. -/
def cutAt (s : ByteArray) (c : UInt8) : ByteArray × ByteArray × Bool :=
  let i := Lib.indexByte s.data.toList c
  if 0 ≤ i then (s.extract 0 i.toNat, s.extract (i.toNat + 1) s.size, true) else (s, ⟨#[]⟩, false)

theorem indexByte_lt (l : List UInt8) (c : UInt8) : Lib.indexByte l c < l.length ∨ Lib.indexByte l c = -1 := by
  induction l with
  | nil => right; rfl
  | cons b l ih =>
    unfold Lib.indexByte
    by_cases hb : (b == c) = true
    · left; rw [if_pos hb]; simp
    · rw [if_neg hb]
      by_cases h1 : (Lib.indexByte l c == -1) = true
      · right; rw [if_pos h1]
      · left
        rw [if_neg h1]
        rcases ih with h | h
        · simp; omega
        · exact absurd (by simpa using h) (by simpa using h1)

set_option maxHeartbeats 1000000 in
set_option maxRecDepth 100000 in
theorem lite_Cut (s : ByteArray) (c : UInt8) (w : World) (hs : s.size ≤ 1099511627776) :
    Calls Tryz.prog 71 #[.string s, .string ⟨#[c]⟩] w fun e w' => e = .returned (.tuple #[.string (cutAt s c).1, .string (cutAt s c).2.1, .bool (cutAt s c).2.2]) ∧ Drawn0 w w' := by
  have hlt := indexByte_lt s.data.toList c
  have hge := Lib.indexByte_ge s.data.toList c
  have hsz : s.data.toList.length = s.size := by simp
  by_cases h : 0 ≤ Lib.indexByte s.data.toList c
  · have e : cutAt s c = (s.extract 0 (Lib.indexByte s.data.toList c).toNat, s.extract ((Lib.indexByte s.data.toList c).toNat + 1) s.size, true) := by
      unfold cutAt; simp [h]
    have E := Lib.hid e
    clear e
    obtain ⟨i, hi⟩ : ∃ i : Nat, Lib.indexByte s.data.toList c = i := ⟨(Lib.indexByte s.data.toList c).toNat, by omega⟩
    have hil : i < s.size := by rw [hi] at hlt; omega
    have HI := Lib.hid hi
    clear hi hlt hge h
    go_enter Tryz.func71, Tryz.ntmps71
    go_wp2_with fail
    refine (Tryz.stringslite_Index_one s c _).mono ?_
    rintro e w1 ⟨rfl, rfl⟩
    rw [HI.out]
    go_wp2_with fail
    have q1 : IntKind.i64.wrap ((i : Int) + 1) = (i : Int) + 1 := IntWalk.i64_in _ (by omega)
    have q2 : (0 : Int) ≤ (i : Int) + 1 := by omega
    have q3 : ((i : Int) + 1).toNat = i + 1 := by omega
    have q4 : i + 1 ≤ s.size := by omega
    have q5 : i ≤ s.size := by omega
    go_quiet (fail)
    go_wp2_with fail
    go_ret3
    exact ⟨by rw [E.out, HI.out]; rfl, ⟨_, rfl⟩⟩
  · have e : cutAt s c = (s, ⟨#[]⟩, false) := by
      unfold cutAt; simp [h]
    have E := Lib.hid e
    clear e
    have hi : Lib.indexByte s.data.toList c = -1 := by omega
    have HI := Lib.hid hi
    clear hi hlt hge h
    go_enter Tryz.func71, Tryz.ntmps71
    go_wp2_with fail
    refine (Tryz.stringslite_Index_one s c _).mono ?_
    rintro e w1 ⟨rfl, rfl⟩
    rw [HI.out]
    go_wp2_with fail
    go_ret3
    exact ⟨by rw [E.out]; rfl, Drawn0.refl _⟩

/-- The contract's function: strings.Cut at a separator of one byte (strings of at most 2^40 bytes). -/
def strings_Cut.f (a0 : ByteArray) (a1 : ByteArray) : Option (ByteArray × ByteArray × Bool) :=
  if a0.size ≤ 1099511627776 ∧ a1.size = 1 then some (cutAt a0 (a1.data.toList.getD 0 0)) else none
set_option maxHeartbeats 1000000 in
theorem strings_Cut.calls (a0 : ByteArray) (a1 : ByteArray) (r1 : ByteArray) (r2 : ByteArray) (r3 : Bool) (w : World) (h : strings_Cut.f a0 a1 = some (r1, r2, r3)) :
    Calls Tryz.prog 40 #[.string a0, .string a1] w fun e w' => e = .returned (.tuple #[.string r1, .string r2, .bool r3]) ∧ Drawn0 w w' := by
  unfold strings_Cut.f at h
  by_cases hs : a0.size ≤ 1099511627776 ∧ a1.size = 1
  · rw [if_pos hs] at h
    obtain ⟨h1, h2⟩ := hs
    obtain ⟨c, rfl⟩ : ∃ c, a1 = ⟨#[c]⟩ := by
      obtain ⟨⟨l⟩⟩ := a1
      match l, h2 with
      | [c], _ => exact ⟨c, rfl⟩
    have h3 := Option.some.inj h
    have h4 : cutAt a0 c = (r1, r2, r3) := h3
    have H4 := Lib.hid h4
    clear h h2 h3 h4
    go_enter Tryz.func40, Tryz.ntmps40
    go_wp2_with fail
    refine (lite_Cut a0 c _ h1).mono ?_
    rintro e w1 ⟨rfl, ⟨n, rfl⟩⟩
    rw [H4.out]
    go_wp2_with fail
    go_ret3
    exact ⟨rfl, ⟨n, rfl⟩⟩
  · rw [if_neg hs] at h
    cases h

end Go.Proofs.YtieompfmhnpnaaaGreat.H
