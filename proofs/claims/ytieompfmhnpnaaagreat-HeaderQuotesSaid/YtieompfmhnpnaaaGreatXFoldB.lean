/- Contracts by hand: header.fold. -/
import Derived.Test.YtieompfmhnpnaaaGreatB0
import Derived.Test.YtieompfmhnpnaaaGreatBa
import Derived.Test.YtieompfmhnpnaaaGreatBb
import Derived.Test.YtieompfmhnpnaaaGreatXFold
import Derived.Test.YtieompfmhnpnaaaGreatXRp
-- needs: header_isName text_Trim
namespace Go.Proofs.YtieompfmhnpnaaaGreat.H
open Go.RowKit Go.Proofs.YtieompfmhnpnaaaGreatW.PrintWords Go.Proofs.YtieompfmhnpnaaaGreatW.PrintLast Go.Proofs.YtieompfmhnpnaaaGreatW.PrintMore
set_option linter.unusedVariables false
set_option linter.unusedSimpArgs false

/-- A strings.Builder in block bb that holds l. -/
def Bld (B bb : Nat) (l : List UInt8) (w : World) : Prop := Lib.IsBuilderF 66 5 B bb (Lib.byteCells l) w
theorem byteCells_append (l m : List UInt8) : Lib.byteCells (l ++ m) = Lib.byteCells l ++ Lib.byteCells m := by simp [Lib.byteCells]
theorem byteCells_str (s : ByteArray) : Lib.strCells s = Lib.byteCells s.data.toList := rfl

/-- What a writing method leaves of the world: all below B, and all blocks but the builder's and rows of bytes. -/
structure BKept (B bb : Nat) (w w' : World) : Prop where
  below : Below B w w'
  others : Lib.OthersKept 5 (some bb) w w'
theorem BKept.refl (B bb : Nat) (w : World) : BKept B bb w w := ⟨Below.refl _ _, Lib.OthersKept.refl _ _ _⟩
theorem BKept.trans {B bb : Nat} {a b c : World} (h : BKept B bb a b) (k : BKept B bb b c) : BKept B bb a c := ⟨h.below.trans k.below, h.others.trans k.others⟩
theorem BKept.drawn {B bb : Nat} {a b c : World} (h : BKept B bb a b) (k : Drawn0 b c) : BKept B bb a c := by
  obtain ⟨n, rfl⟩ := k
  exact ⟨pw_below_drewN h.below n, fun i o hi hb ho => h.others i o hi hb ho⟩
/-- A step that only makes new blocks. -/
theorem BKept.made {B bb : Nat} {a b c : World} (h : BKept B bb a b) (k : Below b.heap.size b c) (hB : B ≤ b.heap.size) : BKept B bb a c :=
  ⟨h.below.trans (k.mono hB), fun i o hi hb ho => by
    have h1 := h.others i o hi hb ho
    exact (k.block i (Array.getElem?_eq_some_iff.1 h1).1).trans h1⟩
theorem Bld.keep {B bb : Nat} {l : List UInt8} {a b : World} (h : Bld B bb l a) (k : Below a.heap.size a b) : Bld B bb l b := by
  have key : ∀ p, Lib.BuilderAtF 66 5 B bb p (Lib.byteCells l) a → Lib.BuilderAtF 66 5 B bb p (Lib.byteCells l) b := fun p hp => by
    obtain ⟨h1, v, h2, h3, h4⟩ := hp
    exact ⟨h1, v, (k.block bb (Array.getElem?_eq_some_iff.1 h2).1).trans h2, h3.kept (grown_of_below k none) (by cases v.ownBlock <;> simp), h4⟩
  rcases h with h | h
  · exact .inl (key _ h)
  · exact .inr (key _ h)

theorem wstr (B bb : Nat) (l : List UInt8) (s : ByteArray) (w : World) (h : Bld B bb l w) (hlen : l.length + s.size ≤ 140737488355328) (hB : B ≤ w.heap.size) :
    Calls Tryz.prog 51 #[.pointer (some ⟨bb, 0, none⟩), .string s] w fun e w' => e = .returned (.tuple #[.int .i64 s.size, .nilIface]) ∧ Bld B bb (l ++ s.data.toList) w' ∧ BKept B bb w w' := by
  refine (Tryz.WriteString B bb (Lib.byteCells l) s w h (by rw [Lib.byteCells_length]; exact hlen) hB).mono ?_
  rintro e w' ⟨rfl, h1, h2, h3⟩
  exact ⟨rfl, .inr (by rw [byteCells_append]; exact h1), h2, h3⟩
theorem wbyte (B bb : Nat) (l : List UInt8) (c : UInt8) (w : World) (h : Bld B bb l w) (hlen : l.length + 1 ≤ 140737488355328) (hB : B ≤ w.heap.size) :
    Calls Tryz.prog 83 #[.pointer (some ⟨bb, 0, none⟩), .int .u8 c.toNat] w fun e w' => e = .returned .nilIface ∧ Bld B bb (l ++ [c]) w' ∧ BKept B bb w w' := by
  refine (Tryz.WriteByte B bb (Lib.byteCells l) c.toNat w h (by rw [Lib.byteCells_length]; exact hlen) hB).mono ?_
  rintro e w' ⟨rfl, h1, h2, h3⟩
  exact ⟨rfl, .inr (by rw [byteCells_append]; exact h1), h2, h3⟩

/-- A variable that holds the builder's address. -/
theorem boxed_cell {w : World} {x bb : Nat} (h : w.heap[x]? = some (.cells #[.pointer (some ⟨bb, 0, none⟩)] 64 (0, 0))) : w.cell? ⟨x, 0, none⟩ = some (.pointer (some ⟨bb, 0, none⟩)) := by
  simp [World.cell?, h]
theorem BKept.box {B bb x : Nat} {w w' : World} (h : BKept B bb w w') (hx : w.heap[x]? = some (.cells #[.pointer (some ⟨bb, 0, none⟩)] 64 (0, 0))) (hne : x ≠ bb) : w'.heap[x]? = some (.cells #[.pointer (some ⟨bb, 0, none⟩)] 64 (0, 0)) :=
  h.others x _ hx (fun e => hne (Option.some.inj e)) (fun c fz e => by injection e with _ e2; exact absurd e2 (by decide))

set_option maxHeartbeats 1000000 in
set_option maxRecDepth 100000 in
/-- fold's closure: a line and its LF. -/
theorem end_calls (B bb x : Nat) (l : List UInt8) (s : ByteArray) (w : World) (h : Bld B bb l w) (hlen : l.length + s.size + 1 ≤ 140737488355328) (hB : B ≤ w.heap.size) (hx : w.heap[x]? = some (.cells #[.pointer (some ⟨bb, 0, none⟩)] 64 (0, 0))) (hne : x ≠ bb) :
    Calls Tryz.prog 82 #[.string s, .pointer (some ⟨x, 0, none⟩)] w fun e w' => e = .returned (.tuple #[]) ∧ Bld B bb (l ++ (s.data.toList ++ [10])) w' ∧ BKept B bb w w' := by
  have hc := boxed_cell hx
  have H := Aside0.mk h
  have HX := Aside0.mk hx
  clear h hx
  go_enter Tryz.func82, Tryz.ntmps82
  go_wp2_with fail
  refine (wstr B bb l s w H.out (by omega) hB).mono ?_
  rintro e w1 ⟨rfl, h1, k1⟩
  have H1 := Aside0.mk h1
  have hB1 : B ≤ w1.heap.size := by have := k1.below.size; omega
  have hx1 := k1.box HX.out hne
  have hc1 := boxed_cell hx1
  have K1 := Aside0.mk k1
  clear h1 k1 hx1
  go_wp2_with fail
  refine (wbyte B bb (l ++ s.data.toList) 10 w1 H1.out (by simp; omega) hB1).mono ?_
  rintro e w2 ⟨rfl, h2, k2⟩
  have H2 := Aside0.mk h2
  have K2 := Aside0.mk k2
  clear h2 k2
  go_wp2_with fail
  go_end0
  exact ⟨rfl, by rw [← List.append_assoc]; exact H2.out, K1.out.trans K2.out⟩

/-- The lines of a field. -/
def foldL : Nat → ByteArray → Nat → List UInt8
  | 0, s, _ => s.data.toList ++ [10]
  | f + 1, s, bound =>
    if s.size ≤ 78 then s.data.toList ++ [10]
    else if 0 < foldAtS s bound then (s.extract 0 (foldAtS s bound)).data.toList ++ [10] ++ foldL f (s.extract (foldAtS s bound) s.size) 0
    else if s.size ≤ 998 then s.data.toList ++ [10]
    else (s.extract 0 998).data.toList ++ [10] ++ foldL f (⟨#[32]⟩ ++ s.extract 998 s.size) 0

theorem downTo_le (p : Nat → Bool) (lo n : Nat) : downTo p lo n ≤ n := by
  induction n with
  | zero => exact Nat.le_refl _
  | succ n ih => unfold downTo; split <;> (try split) <;> omega
theorem upTo_lt (p : Nat → Bool) : ∀ f i, (upTo p i f < i + f ∧ 0 < f) ∨ upTo p i f = 0
  | 0, i => .inr rfl
  | f + 1, i => by
    unfold upTo
    split
    · left; omega
    · rcases upTo_lt p f (i + 1) with h | h
      · left; omega
      · right; exact h
theorem foldAtS_le (s : ByteArray) (bound : Nat) : foldAtS s bound ≤ s.size := by
  unfold foldAtS
  simp only
  split
  · rcases upTo_lt (isFoldB s) (min 998 (s.size - 2) - max 78 bound) (max 78 bound + 1) with h | h <;> omega
  · have := downTo_le (isFoldB s) bound (min 78 (min 998 (s.size - 2)))
    omega

/-- The rest of the lines: with so many rounds left. -/
def FoldRest (l : List UInt8) (s0 : ByteArray) (b0 : Nat) (l' : List UInt8) (s : ByteArray) (b : Nat) : Prop :=
  ∃ f, s.size ≤ f ∧ l ++ foldL s0.size s0 b0 = l' ++ foldL f s b

theorem FoldRest.cut {l : List UInt8} {s0 : ByteArray} {b0 : Nat} {l' : List UInt8} {s : ByteArray} {b : Nat} (h : FoldRest l s0 b0 l' s b) (h78 : 78 < s.size) (hi : 0 < foldAtS s b) :
    FoldRest l s0 b0 (l' ++ ((s.extract 0 (foldAtS s b)).data.toList ++ [10])) (s.extract (foldAtS s b) s.size) 0 := by
  obtain ⟨f, hf, e⟩ := h
  obtain ⟨f, rfl⟩ : ∃ g, f = g + 1 := ⟨f - 1, by omega⟩
  refine ⟨f, by simp; omega, ?_⟩
  rw [e]
  conv => lhs; unfold foldL
  rw [if_neg (by omega), if_pos hi]
  simp
theorem FoldRest.hard {l : List UInt8} {s0 : ByteArray} {b0 : Nat} {l' : List UInt8} {s : ByteArray} {b : Nat} (h : FoldRest l s0 b0 l' s b) (h78 : 78 < s.size) (hi : ¬ 0 < foldAtS s b) (h998 : ¬ s.size ≤ 998) :
    FoldRest l s0 b0 (l' ++ ((s.extract 0 998).data.toList ++ [10])) (⟨#[32]⟩ ++ s.extract 998 s.size) 0 := by
  obtain ⟨f, hf, e⟩ := h
  obtain ⟨f, rfl⟩ : ∃ g, f = g + 1 := ⟨f - 1, by omega⟩
  refine ⟨f, ?_, ?_⟩
  · rw [ByteArray.size_append]
    have : (⟨#[32]⟩ : ByteArray).size = 1 := rfl
    simp
    omega
  rw [e]
  conv => lhs; unfold foldL
  rw [if_neg (by omega), if_neg hi, if_neg h998]
  simp
theorem FoldRest.stop {l : List UInt8} {s0 : ByteArray} {b0 : Nat} {l' : List UInt8} {s : ByteArray} {b : Nat} (h : FoldRest l s0 b0 l' s b) (hs : s.size ≤ 78 ∨ (¬ 0 < foldAtS s b ∧ s.size ≤ 998)) :
    l ++ foldL s0.size s0 b0 = l' ++ (s.data.toList ++ [10]) := by
  obtain ⟨f, hf, e⟩ := h
  rw [e]
  cases f with
  | zero => rfl
  | succ f =>
    unfold foldL
    rcases hs with h | ⟨h1, h2⟩
    · rw [if_pos h]
    · by_cases h3 : s.size ≤ 78
      · rw [if_pos h3]
      · rw [if_neg h3, if_neg h1, if_pos h2]

set_option maxHeartbeats 2000000 in
set_option maxRecDepth 100000 in
theorem fold_calls (B bb : Nat) (l : List UInt8) (s : ByteArray) (bound : Nat) (w : World) (h : Bld B bb l w) (hb : bound ≤ 1000) (hlen : l.length + 2 * s.size + 2 ≤ 1099511627776) (hB : B ≤ w.heap.size) :
    Calls Tryz.prog 56 #[.pointer (some ⟨bb, 0, none⟩), .string s, .int .i64 bound] w fun e w' => e = .returned (.tuple #[]) ∧ Bld B bb (l ++ foldL s.size s bound) w' ∧ BKept B bb w w' := by
  obtain ⟨W, hW⟩ : ∃ W, W = w.alloc (Obj.cells #[.pointer (some ⟨bb, 0, none⟩)] 64) := ⟨_, rfl⟩
  have hbel : Below w.heap.size w W := by rw [hW]; exact (Below.refl _ _).alloc (Nat.le_refl _) _
  have hx : W.heap[w.heap.size]? = some (.cells #[.pointer (some ⟨bb, 0, none⟩)] 64 (0, 0)) := by rw [hW]; exact heap_alloc_new w _
  have hsz : W.heap.size = w.heap.size + 1 := by rw [hW, World.size_alloc]
  have hlt : bb < w.heap.size := by
    rcases h with ⟨_, v, h2, _⟩ | ⟨_, v, h2, _⟩ <;> exact (Array.getElem?_eq_some_iff.1 h2).1
  have h0 : Bld B bb l W := h.keep hbel
  have hk0 : BKept B bb w W := (BKept.refl B bb w).made hbel hB
  have HW := Aside0.mk hW
  clear hW h hbel
  go_enter Tryz.func56, Tryz.ntmps56
  go_wp2_with fail
  go_step3
  go_wp2_with fail
  go_step3
  go_wp2_with fail
  rw [← HW.out]
  have hne : w.heap.size ≠ bb := by omega
  go_loopw [1, 2] (fun v b wr => ∃ (l' : List UInt8) (s1 : ByteArray) (b1 : Nat), v = .string s1 ∧ b = .int .i64 b1 ∧ b1 ≤ 1000 ∧ l'.length + 2 * s1.size + 2 ≤ 1099511627776 ∧ Aside0 (FoldRest l s bound l' s1 b1) ∧ Aside0 (Bld B bb l' wr) ∧ Aside0 (BKept B bb w wr) ∧ Aside0 (wr.heap[w.heap.size]? = some (.cells #[.pointer (some ⟨bb, 0, none⟩)] 64 (0, 0)))) (fun v _ _ => match v with | .string x => x.size | _ => 0)
  case atStart => exact ⟨l, s, bound, rfl, rfl, hb, hlen, ⟨s.size, Nat.le_refl _, rfl⟩, ⟨h0⟩, ⟨hk0⟩, ⟨hx⟩⟩
  case round =>
    clear h0 hk0 hx hsz
    obtain ⟨l', s1, b1, rfl, rfl, hb1, hl1, hf, hbl, hkp, hxx⟩ := hrel
    by_cases h78 : 78 < s1.size
    · obtain ⟨i, hi⟩ : ∃ i, i = foldAtS s1 b1 := ⟨_, rfl⟩
      have hile : i ≤ s1.size := by rw [hi]; exact foldAtS_le s1 b1
      have hcall := foldAt_calls s1 b1 wr (by omega) h78 hb1
      rw [← hi] at hcall
      have HC := Aside0.mk hcall
      have hsw : ∀ w1, Below wr.heap.size wr w1 → Aside0 (Bld B bb l' w1) ∧ Aside0 (BKept B bb w w1) ∧ Aside0 (w1.heap[w.heap.size]? = some (.cells #[.pointer (some ⟨bb, 0, none⟩)] 64 (0, 0))) ∧ Aside0 (B ≤ w1.heap.size) := fun w1 hb2 =>
        ⟨⟨hbl.out.keep hb2⟩, ⟨hkp.out.made hb2 (by have := hkp.out.below.size; omega)⟩, ⟨(hb2.block _ (Array.getElem?_eq_some_iff.1 hxx.out).1).trans hxx.out⟩, ⟨by have := hkp.out.below.size; have := hb2.size; omega⟩⟩
      have HSW := Aside0.mk hsw
      have HI := Lib.hid hi
      clear hcall hsw hbl hkp hxx hi
      by_cases h0 : 0 < i
      · go_wp2_with fail
        refine (HC.out).mono ?_
        rintro e w1 ⟨rfl, hb2⟩
        obtain ⟨hbl, hkp, hxx, hB1⟩ := HSW.out w1 hb2
        clear hb2 HSW HC
        go_wp2_with fail
        refine (end_calls B bb w.heap.size l' (s1.extract 0 i) w1 hbl.out (by simp; omega) hB1.out hxx.out hne).mono ?_
        rintro e w2 ⟨rfl, h2, k2⟩
        have H2 := Aside0.mk h2
        have K2 := Aside0.mk k2
        clear h2 k2
        go_wp2_with fail
        go_roundw
        case rel => exact ⟨l' ++ ((s1.extract 0 i).data.toList ++ [10]), s1.extract i s1.size, 0, rfl, rfl, by omega, by simp; omega, ⟨by have := hf.out.cut h78 (by rw [← HI.out]; exact h0); rw [← HI.out] at this; exact this⟩, H2, ⟨hkp.out.trans K2.out⟩, ⟨K2.out.box hxx.out hne⟩⟩
        case measure => simp; omega
      · by_cases h998 : s1.size ≤ 998
        · go_wp2_with fail
          refine (HC.out).mono ?_
          rintro e w1 ⟨rfl, hb2⟩
          obtain ⟨hbl, hkp, hxx, hB1⟩ := HSW.out w1 hb2
          clear hb2 HSW HC
          go_wp2_with fail
          refine (end_calls B bb w.heap.size l' s1 w1 hbl.out (by omega) hB1.out hxx.out hne).mono ?_
          rintro e w2 ⟨rfl, h2, k2⟩
          have H2 := Aside0.mk h2
          have K2 := Aside0.mk k2
          clear h2 k2
          go_wp2_with fail
          rw [Exit.noGoto_normal]
          go_end0
          have hs := hf.out.stop (.inr ⟨by rw [← HI.out]; exact h0, h998⟩)
          exact ⟨rfl, by rw [hs]; exact H2.out, hkp.out.trans K2.out⟩
        · go_wp2_with fail
          refine (HC.out).mono ?_
          rintro e w1 ⟨rfl, hb2⟩
          obtain ⟨hbl, hkp, hxx, hB1⟩ := HSW.out w1 hb2
          clear hb2 HSW HC
          go_wp2_with fail
          refine (end_calls B bb w.heap.size l' (s1.extract 0 998) w1 hbl.out (by simp; omega) hB1.out hxx.out hne).mono ?_
          rintro e w2 ⟨rfl, h2, k2⟩
          have H2 := Aside0.mk h2
          have K2 := Aside0.mk k2
          clear h2 k2
          go_wp2_with fail
          go_roundw
          case rel => exact ⟨l' ++ ((s1.extract 0 998).data.toList ++ [10]), ⟨#[32]⟩ ++ s1.extract 998 s1.size, 0, rfl, rfl, by omega, by rw [ByteArray.size_append, show (⟨#[32]⟩ : ByteArray).size = 1 from rfl]; simp; omega, ⟨hf.out.hard h78 (by rw [← HI.out]; exact h0) h998⟩, H2, ⟨hkp.out.trans K2.out⟩, ⟨K2.out.box hxx.out hne⟩⟩
          case measure => simp [show (⟨#[32]⟩ : ByteArray).size = 1 from rfl]; omega
    · go_wp2_with fail
      refine (end_calls B bb w.heap.size l' s1 wr hbl.out (by omega) (by have := hkp.out.below.size; omega) hxx.out hne).mono ?_
      rintro e w2 ⟨rfl, h2, k2⟩
      have H2 := Aside0.mk h2
      have K2 := Aside0.mk k2
      clear h2 k2
      go_wp2_with fail
      rw [Exit.noGoto_normal]
      go_end0
      have hs := hf.out.stop (.inl (by omega))
      exact ⟨rfl, by rw [hs]; exact H2.out, hkp.out.trans K2.out⟩
end Go.Proofs.YtieompfmhnpnaaaGreat.H
