/- Contracts by hand: header.Parse: what it computes, and the state between two rounds. -/
import Derived.Test.YtieompfmhnpnaaaGreatB0
import Derived.Test.YtieompfmhnpnaaaGreatXLp
import Derived.Laws.EntriesVeiled
namespace Go.Proofs.YtieompfmhnpnaaaGreat.H
open Go.RowKit Go.Proofs.YtieompfmhnpnaaaGreatW.PrintWords Go.Proofs.YtieompfmhnpnaaaGreatW.PrintLast Go.Proofs.YtieompfmhnpnaaaGreatW.PrintMore
set_option linter.unusedVariables false
set_option linter.unusedSimpArgs false

/-- Parse's state: fields, the parts of the last value, the end. -/
structure PS where
  fs : List S35
  vs : List ByteArray
  en : Nat
/-- The fields when the last value is put together. -/
def doneF (fs : List S35) (vs : List ByteArray) : List S35 :=
  match fs.getLast? with
  | none => []
  | some f => fs.dropLast ++ [⟨f.f0, joinS vs⟩]
theorem doneF_nil (vs : List ByteArray) : doneF [] vs = [] := rfl
theorem doneF_snoc (fs : List S35) (f : S35) (vs : List ByteArray) : doneF (fs ++ [f]) vs = fs ++ [⟨f.f0, joinS vs⟩] := by simp [doneF]
theorem doneF_length (fs : List S35) (vs : List ByteArray) : (doneF fs vs).length = fs.length := by
  rcases List.eq_nil_or_concat fs with rfl | ⟨gs, g, rfl⟩
  · rfl
  · rw [List.concat_eq_append, doneF_snoc]; simp
def stepP (st : PS) (x : LineX) : PS × Bool :=
  if x.con.size = 0 then (⟨st.fs, st.vs, x.un⟩, false)
  else if blankB (byteAt x.con 0) = true ∧ 0 < st.fs.length then (⟨st.fs, addV st.vs x.con, x.un⟩, true)
  else if (cutAt x.con 58).2.2 = false ∨ isNameB (cutAt x.con 58).1 = false ∨ 400 ≤ st.fs.length then (st, false)
  else (⟨doneF st.fs st.vs ++ [⟨(cutAt x.con 58).1, ⟨#[]⟩⟩], addV [] (cutAt x.con 58).2.1, x.un⟩, true)
/-- All rounds went on. -/
def goP (st : PS) : List LineX → Option PS
  | [] => some st
  | x :: xs => if (stepP st x).2 then goP (stepP st x).1 xs else none
def foldP (st : PS) : List LineX → PS
  | [] => st
  | x :: xs => if (stepP st x).2 then foldP (stepP st x).1 xs else (stepP st x).1
theorem goP_snoc (st : PS) (xs : List LineX) (x : LineX) : goP st (xs ++ [x]) = (goP st xs).bind fun s => if (stepP s x).2 then some (stepP s x).1 else none := by
  induction xs generalizing st with
  | nil => simp [goP]
  | cons y ys ih =>
    show (if (stepP st y).2 then goP (stepP st y).1 (ys ++ [x]) else none) = ((if (stepP st y).2 then goP (stepP st y).1 ys else none).bind _)
    split
    · exact ih _
    · rfl
theorem foldP_of_goP {st st' : PS} {xs : List LineX} (h : goP st xs = some st') : foldP st xs = st' := by
  induction xs generalizing st with
  | nil => exact Option.some.inj h
  | cons y ys ih =>
    unfold goP at h
    unfold foldP
    split at h
    · rename_i h1
      rw [if_pos h1]
      exact ih h
    · cases h
theorem foldP_stop {st st' : PS} {xs rest : List LineX} {x : LineX} (h : goP st xs = some st') (hx : (stepP st' x).2 = false) : foldP st (xs ++ [x] ++ rest) = (stepP st' x).1 := by
  induction xs generalizing st with
  | nil =>
    obtain rfl := Option.some.inj h
    simp [foldP, hx]
  | cons y ys ih =>
    unfold goP at h
    show (if (stepP st y).2 then foldP (stepP st y).1 (ys ++ [x] ++ rest) else _) = _
    split at h
    · rename_i h1
      rw [if_pos h1]
      exact ih h
    · cases h
/-- What Parse computes. -/
def parseS (s : ByteArray) : List S35 × Nat :=
  let st := foldP ⟨[], [], 0⟩ (linesOf s)
  (doneF st.fs st.vs, st.en)

/-- Bounds that hold between two rounds. -/
def BdP (M k : Nat) (st : PS) : Prop := st.vs.length ≤ k ∧ (∀ v ∈ st.vs, v.size ≤ M) ∧ st.fs.length ≤ 400
theorem cutAt_two (s : ByteArray) (c : UInt8) : (cutAt s c).1.size ≤ s.size ∧ (cutAt s c).2.1.size ≤ s.size := by
  refine ⟨by have := (cutAt_size s c).1; omega, ?_⟩
  by_cases h : 0 ≤ Lib.indexByte s.data.toList c
  · have e : cutAt s c = (s.extract 0 (Lib.indexByte s.data.toList c).toNat, s.extract ((Lib.indexByte s.data.toList c).toNat + 1) s.size, true) := by
      unfold cutAt; simp [h]
    rw [e]
    simp
  · have e : cutAt s c = (s, ⟨#[]⟩, false) := by
      unfold cutAt; simp [h]
    rw [e]
    exact Nat.zero_le _
theorem addV_bd {M k : Nat} {vs : List ByteArray} {s : ByteArray} (h1 : vs.length ≤ k) (h2 : ∀ v ∈ vs, v.size ≤ M) (hs : s.size ≤ M) : (addV vs s).length ≤ k + 1 ∧ ∀ v ∈ addV vs s, v.size ≤ M := by
  unfold addV
  split
  · exact ⟨by omega, h2⟩
  · refine ⟨by simp; omega, fun v hv => ?_⟩
    rcases List.mem_append.1 hv with hv | hv
    · exact h2 v hv
    · obtain rfl : v = trimS s := by simpa using hv
      exact Nat.le_trans (trim_size s) hs
theorem stepP_bd {M k : Nat} {st : PS} {x : LineX} (h : BdP M k st) (hx : x.con.size ≤ M) : BdP M (k + 1) (stepP st x).1 := by
  obtain ⟨h1, h2, h3⟩ := h
  unfold stepP
  split
  · exact ⟨by simp; omega, h2, h3⟩
  · split
    · have := addV_bd h1 h2 hx
      exact ⟨this.1, this.2, h3⟩
    · split
      · exact ⟨by simp; omega, h2, h3⟩
      · rename_i h4
        have h5 : (cutAt x.con 58).2.1.size ≤ M := Nat.le_trans (cutAt_two _ _).2 hx
        have := addV_bd (M := M) (k := k) (vs := []) (s := (cutAt x.con 58).2.1) (Nat.zero_le _) (fun v hv => by cases hv) h5
        refine ⟨this.1, this.2, ?_⟩
        have h6 : ¬ 400 ≤ st.fs.length := fun h => h4 (.inr (.inr h))
        simp [doneF_length]
        omega
theorem goP_bd {M : Nat} {xs : List LineX} (hx : ∀ x ∈ xs, x.con.size ≤ M) {k : Nat} {st st' : PS} (h : BdP M k st) (hg : goP st xs = some st') : BdP M (k + xs.length) st' := by
  induction xs generalizing st k with
  | nil => obtain rfl := Option.some.inj hg; exact h
  | cons y ys ih =>
    unfold goP at hg
    split at hg
    · have := ih (fun x hx' => hx x (List.mem_cons_of_mem _ hx')) (stepP_bd h (hx y List.mem_cons_self)) hg
      have e : k + (y :: ys).length = k + 1 + ys.length := by simp; omega
      rw [e]
      exact this
    · cases hg
theorem joinS_size {M : Nat} {vs : List ByteArray} (h : ∀ v ∈ vs, v.size ≤ M) : (joinS vs).size ≤ vs.length * (M + 1) := by
  unfold joinS
  rw [mkB_size]
  induction vs with
  | nil => exact Nat.zero_le _
  | cons v vs ih =>
    have h1 := ih (fun u hu => h u (List.mem_cons_of_mem _ hu))
    have h2 := h v List.mem_cons_self
    rw [← bl_length] at h2
    have e : (v :: vs).length * (M + 1) = vs.length * (M + 1) + (M + 1) := by rw [List.length_cons, Nat.succ_mul]
    rw [e]
    cases vs with
    | nil => simp only [List.map_cons, List.map_nil, Lib.join]; simp at h2 ⊢; omega
    | cons u us =>
      simp only [List.map_cons, Lib.join, List.length_append] at h1 ⊢
      simp at h1 h2 ⊢
      omega

/-! ### the state in the heap -/
/-- The blocks that a step may turn: cells of the call's own that are no line's. -/
def Ex (n0 : Nat) (W : World) (i : Nat) : Prop := n0 ≤ i ∧ ∃ cells t, W.heap[i]? = some (.cells cells t (0, 0)) ∧ t ≠ 81
def Stp (n0 : Nat) (W W' : World) : Prop := FrameX (Ex n0 W) W W'
theorem Stp.refl (n0 : Nat) (W : World) : Stp n0 W W := FrameX.refl _ _
theorem Stp.trans {n0 : Nat} {A B C : World} (h : Stp n0 A B) (k : Stp n0 B C) : Stp n0 A C :=
  ⟨k.os.trans h.os, k.tape.trans h.tape, k.output.trans h.output, Nat.le_trans h.size k.size, fun i hi he => by
    have e1 := h.block i hi he
    exact (k.block i (Nat.lt_of_lt_of_le hi h.size) (fun ⟨h1, c, t, h2, h3⟩ => he ⟨h1, c, t, e1 ▸ h2, h3⟩)).trans e1⟩
theorem Stp.keeps {n0 : Nat} {W W' : World} (h : Stp n0 W W') (B : Nat) : KeepsFrom B W W' :=
  ⟨h.size, fun k o _ hk ho => (h.block k (Array.getElem?_eq_some_iff.1 hk).1 (fun ⟨_, c, t, h2, _⟩ => by rw [h2] at hk; cases hk; cases ho)).trans hk⟩
theorem Stp.below {n0 : Nat} {W W' : World} (h : Stp n0 W W') (hn : n0 ≤ W.heap.size) : Below n0 W W' :=
  ⟨h.os, h.tape, h.output, h.size, fun i hi => h.block i (Nat.lt_of_lt_of_le hi hn) (fun ⟨h1, _⟩ => by omega)⟩
theorem Stp.lv {n0 : Nat} {W W' : World} (h : Stp n0 W W') {B : Nat} {c : Array Value} (hv : W.heap[B]? = some (.cells c 81 (0, 0))) : W'.heap[B]? = some (.cells c 81 (0, 0)) :=
  (h.block B (Array.getElem?_eq_some_iff.1 hv).1 (fun ⟨_, c', t, h2, h3⟩ => by rw [hv] at h2; injection h2 with h2; injection h2 with _ h2 _; exact h3 h2.symm)).trans hv
theorem Stp.setCell {n0 : Nat} {A W : World} (h : Stp n0 A W) {b : Nat} {c : Array Value} {t : TypeId} (hb : n0 ≤ b) (hc : W.heap[b]? = some (.cells c t (0, 0))) (ht : t ≠ 81) (j : Nat) (v : Value) : Stp n0 A (W.setCell ⟨b, j, none⟩ v) :=
  h.trans ((FrameX.refl _ W).setCell ⟨b, j, none⟩ ⟨hb, c, t, hc, ht⟩ v)

def FIN (b0 b1 : Nat) : Value := .func (.func 57) #[] #[.pointer (some ⟨b0, 0, none⟩), .pointer (some ⟨b1, 0, none⟩)]
def ADD (b1 : Nat) : Value := .func (.func 59) #[] #[.pointer (some ⟨b1, 0, none⟩)]
/-- Parse's state in the heap. -/
structure PSt (n0 b0 b1 b2 b3 b4 bs : Nat) (raw : ByteArray) (st : PS) (vF vV : Value) (W : World) : Prop where
  c0 : W.heap[b0]? = some (.cells #[vF] 33 (0, 0))
  c1 : W.heap[b1]? = some (.cells #[vV] 42 (0, 0))
  c2 : W.heap[b2]? = some (.cells #[FIN b0 b1] 1 (0, 0))
  c3 : W.heap[b3]? = some (.cells #[ADD b1] 76 (0, 0))
  c4 : W.heap[b4]? = some (.cells #[.int .i64 (st.en : Int)] 3 (0, 0))
  cs : W.heap[bs]? = some (.cells #[.string raw] 9 (0, 0))
  oF : W.ownsRow n0 35 2 vF st.fs.length (fieldVals st.fs)
  oV : W.ownsRow n0 9 1 vV st.vs.length (strVals st.vs)
  ne : vV.ownBlock ≠ some bs
section
variable {n0 b0 b1 b2 b3 b4 bs : Nat} {raw : ByteArray} {st : PS} {vF vV : Value} {W : World}
theorem pst_own (X Y : World) (row : Option Nat) (h : PSt n0 b0 b1 b2 b3 b4 bs raw st vF vV X) (hg : X.grownBy Y row) (hr : ∀ r, row = some r → ∃ o : Obj, X.heap[r]? = some o ∧ o.isCells = false) : PSt n0 b0 b1 b2 b3 b4 bs raw st vF vV Y := by
  have k : ∀ {b : Nat} {c : Array Value} {t : TypeId}, X.heap[b]? = some (.cells c t (0, 0)) → Y.heap[b]? = some (.cells c t (0, 0)) := fun {b c t} hb =>
    (grownBy_keeps_cells hg hr hb rfl).trans hb
  have ko : ∀ {e : TypeId} {size n : Nat} {v : Value} {xs : List Value}, X.ownsRow n0 e size v n xs → Y.ownsRow n0 e size v n xs := fun {e size n v xs} ho => by
    refine ho.kept hg ?_
    cases hv : v.ownBlock with
    | none => exact .inl rfl
    | some g =>
      refine .inr (fun e' => ?_)
      obtain ⟨cells, hc⟩ := own_typed ho g hv
      obtain ⟨o, h1, h2⟩ := hr g e'.symm
      rw [hc] at h1
      cases h1
      cases h2
  exact ⟨k h.c0, k h.c1, k h.c2, k h.c3, k h.c4, k h.cs, ko h.oF, ko h.oV, h.ne⟩
theorem own_not {e t : TypeId} {size n b : Nat} {v : Value} {xs : List Value} {c : Array Value} (h : W.ownsRow n0 e size v n xs) (hb : W.heap[b]? = some (.cells c t (0, 0))) (ht : t ≠ e) : v.ownBlock ≠ some b := fun e2 => by
  obtain ⟨cells, hcc⟩ := own_typed h b e2
  rw [hb] at hcc
  injection hcc with hcc
  injection hcc with _ h2 _
  exact ht h2
theorem own_ex {e : TypeId} {size n : Nat} {v : Value} {xs : List Value} (h : W.ownsRow n0 e size v n xs) (he : e ≠ 81) {i : Nat} (hi : some i = v.ownBlock) : Ex n0 W i := by
  obtain ⟨cells, hcc⟩ := own_typed h i hi.symm
  exact ⟨own_base h i hi.symm, cells, e, hcc, he⟩

theorem pst_drewN (h : PSt n0 b0 b1 b2 b3 b4 bs raw st vF vV W) (k : Nat) : PSt n0 b0 b1 b2 b3 b4 bs raw st vF vV (W.drewN k) := pst_own W _ none h ⟨rfl, rfl, rfl, Nat.le_refl _, fun _ _ _ => rfl⟩ (fun r e => by cases e)
theorem Stp.drewN {n0 : Nat} {A W : World} (h : Stp n0 A W) (k : Nat) : Stp n0 A (W.drewN k) := FrameX.drewN h k

theorem add_ps (h : PSt n0 b0 b1 b2 b3 b4 bs raw st vF vV W) (hb1 : n0 ≤ b1) (s : ByteArray) (hs : s.size ≤ 1099511627776) (hlen : st.vs.length ≤ 1099511627776) (hn : n0 ≤ W.heap.size) :
    Calls Tryz.prog 59 #[.string s, .pointer (some ⟨b1, 0, none⟩)] W fun e w' => e = .returned (.tuple #[]) ∧ (∃ vV', PSt n0 b0 b1 b2 b3 b4 bs raw ⟨st.fs, addV st.vs s, st.en⟩ vF vV' w') ∧ Stp n0 W w' := by
  refine (add_calls n0 b1 vV st.vs s W hb1 h.c1 h.oV hlen hs hn).mono ?_
  rintro e w' ⟨rfl, vV', k1, k2, k3, k4⟩
  refine ⟨rfl, ⟨vV', ?_⟩, k4.imp ?_⟩
  · have kb : ∀ {b : Nat} {c : Array Value} {t : TypeId}, W.heap[b]? = some (.cells c t (0, 0)) → b ≠ b1 → some b ≠ vV.ownBlock → w'.heap[b]? = some (.cells c t (0, 0)) := fun {b c t} hb h1 h2 =>
      (k4.block b (Array.getElem?_eq_some_iff.1 hb).1 (fun h3 => h3.elim h1 h2)).trans hb
    have d1 : ∀ {b : Nat} {c : Array Value} {t : TypeId}, W.heap[b]? = some (.cells c t (0, 0)) → t ≠ 42 → b ≠ b1 := fun {b c t} hb ht e => by
      subst e
      rw [h.c1] at hb
      injection hb with hb
      injection hb with _ h2 _
      exact ht h2.symm
    refine ⟨kb h.c0 (d1 h.c0 (by decide)) (Ne.symm (own_not h.oV h.c0 (by decide))), k1, kb h.c2 (d1 h.c2 (by decide)) (Ne.symm (own_not h.oV h.c2 (by decide))), kb h.c3 (d1 h.c3 (by decide)) (Ne.symm (own_not h.oV h.c3 (by decide))),
      kb h.c4 (d1 h.c4 (by decide)) (Ne.symm (own_not h.oV h.c4 (by decide))), kb h.cs (d1 h.cs (by decide)) (Ne.symm h.ne), ?_, k2, ?_⟩
    · refine own_move h.oF (fun g hg => ?_)
      obtain ⟨cells, hcc⟩ := own_typed h.oF g hg
      exact (kb hcc (d1 hcc (by decide)) (Ne.symm (own_not h.oV hcc (by decide)))).trans hcc.symm
    · rcases k3 with k3 | ⟨b, k3, k5⟩
      · rw [k3]; exact h.ne
      · rw [k3]
        intro e
        injection e with e
        have := (Array.getElem?_eq_some_iff.1 h.cs).1
        omega
  · rintro i hi (rfl | h2)
    · exact ⟨hb1, _, _, h.c1, by decide⟩
    · exact own_ex h.oV (by decide) h2

theorem fin_ps (h : PSt n0 b0 b1 b2 b3 b4 bs raw st vF vV W) (hb0 : n0 ≤ b0) (hb1 : n0 ≤ b1) (hfl : st.fs.length ≤ 1099511627776) (hlen : st.vs.length ≤ 1099511627776) (hj : (joinS st.vs).size ≤ 140737488355328) (hn : n0 ≤ W.heap.size) :
    Calls Tryz.prog 57 #[.pointer (some ⟨b0, 0, none⟩), .pointer (some ⟨b1, 0, none⟩)] W fun e w' => e = .returned (.tuple #[]) ∧ PSt n0 b0 b1 b2 b3 b4 bs raw ⟨doneF st.fs st.vs, [], st.en⟩ vF (.slice none 0 0) w' ∧ Stp n0 W w' := by
  have main : ∀ w', w'.heap[b0]? = some (.cells #[vF] 33 (0, 0)) → w'.heap[b1]? = some (.cells #[.slice none 0 0] 42 (0, 0)) → w'.ownsRow n0 35 2 vF (doneF st.fs st.vs).length (fieldVals (doneF st.fs st.vs)) → FrameX (fun i => i = b1 ∨ some i = vF.ownBlock) W w' →
      PSt n0 b0 b1 b2 b3 b4 bs raw ⟨doneF st.fs st.vs, [], st.en⟩ vF (.slice none 0 0) w' ∧ Stp n0 W w' := by
    intro w' k0 k1 k2 k4
    refine ⟨?_, k4.imp ?_⟩
    · have kb : ∀ {b : Nat} {c : Array Value} {t : TypeId}, W.heap[b]? = some (.cells c t (0, 0)) → b ≠ b1 → some b ≠ vF.ownBlock → w'.heap[b]? = some (.cells c t (0, 0)) := fun {b c t} hb h1 h2 =>
        (k4.block b (Array.getElem?_eq_some_iff.1 hb).1 (fun h3 => h3.elim h1 h2)).trans hb
      have d1 : ∀ {b : Nat} {c : Array Value} {t : TypeId}, W.heap[b]? = some (.cells c t (0, 0)) → t ≠ 42 → b ≠ b1 := fun {b c t} hb ht e => by
        subst e
        rw [h.c1] at hb
        injection hb with hb
        injection hb with _ h2 _
        exact ht h2.symm
      exact ⟨k0, k1, kb h.c2 (d1 h.c2 (by decide)) (Ne.symm (own_not h.oF h.c2 (by decide))), kb h.c3 (d1 h.c3 (by decide)) (Ne.symm (own_not h.oF h.c3 (by decide))),
        kb h.c4 (d1 h.c4 (by decide)) (Ne.symm (own_not h.oF h.c4 (by decide))), kb h.cs (d1 h.cs (by decide)) (Ne.symm (own_not h.oF h.cs (by decide))), k2, own_nil _ _ _ _, by simp [Value.ownBlock]⟩
    · rintro i hi (rfl | h2)
      · exact ⟨hb1, _, _, h.c1, by decide⟩
      · exact own_ex h.oF (by decide) h2
  have hoF := h.oF
  rcases List.eq_nil_or_concat st.fs with e | ⟨gs, g, e⟩
  · rw [e] at hoF
    refine (finish_none n0 b0 b1 vF vV W h.c0 h.c1 hoF).mono ?_
    rintro e' w' ⟨rfl, k0, k1, k2, k4⟩
    exact ⟨rfl, main w' k0 k1 (by rw [e]; exact k2) k4⟩
  · rw [List.concat_eq_append] at e
    rw [e, List.length_append] at hoF hfl
    refine (finish_calls n0 b0 b1 vF vV gs g st.vs W hb0 hb1 h.c0 h.c1 hoF h.oV hlen (by simp at hfl; omega) hj hn).mono ?_
    rintro e' w' ⟨rfl, k0, k1, k2, k4⟩
    exact ⟨rfl, main w' k0 k1 (by rw [e, doneF_snoc, List.length_append]; exact k2) k4⟩

theorem ty_ne {b b' : Nat} {c c' : Array Value} {t t' : TypeId} (h : W.heap[b]? = some (.cells c t (0, 0))) (h' : W.heap[b']? = some (.cells c' t' (0, 0))) (ht : t ≠ t') : b ≠ b' := fun e => by
  subst e
  rw [h] at h'
  injection h' with h'
  injection h' with _ h2 _
  exact ht h2

theorem en_ps (h : PSt n0 b0 b1 b2 b3 b4 bs raw st vF vV W) (hb4 : n0 ≤ b4) (un : Nat) :
    PSt n0 b0 b1 b2 b3 b4 bs raw ⟨st.fs, st.vs, un⟩ vF vV (W.setCell ⟨b4, 0, none⟩ (.int .i64 (un : Int))) ∧ Stp n0 W (W.setCell ⟨b4, 0, none⟩ (.int .i64 (un : Int))) := by
  refine ⟨⟨blk_far h.c0 (ty_ne h.c0 h.c4 (by decide)) _, blk_far h.c1 (ty_ne h.c1 h.c4 (by decide)) _, blk_far h.c2 (ty_ne h.c2 h.c4 (by decide)) _, blk_far h.c3 (ty_ne h.c3 h.c4 (by decide)) _, ?_, blk_far h.cs (ty_ne h.cs h.c4 (by decide)) _,
    h.oF.kept (grownBy_setCell' W b4 _) (.inr (own_not h.oF h.c4 (by decide))), h.oV.kept (grownBy_setCell' W b4 _) (.inr (own_not h.oV h.c4 (by decide))), h.ne⟩, (Stp.refl n0 W).setCell hb4 h.c4 (by decide) _ _⟩
  have := blk_set h.c4 0 (.int .i64 (un : Int))
  simpa using this

theorem app_ps (h : PSt n0 b0 b1 b2 b3 b4 bs raw st vF vV W) (hb0 : n0 ≤ b0) (hn : n0 ≤ W.heap.size) {o : Obj} {w2 : World} {v' : Value} {nm : ByteArray}
    (hown' : w2.ownsRow n0 35 2 v' (st.fs.length + 1) (fieldVals st.fs ++ [.string nm, .string ⟨#[]⟩])) (hg : (W.alloc o).grownBy w2 vF.ownBlock) :
    w2.cell? ⟨b0, 0, none⟩ = some vF ∧ w2.frozen? ⟨b0, 0, none⟩ = false ∧ PSt n0 b0 b1 b2 b3 b4 bs raw ⟨st.fs ++ [⟨nm, ⟨#[]⟩⟩], st.vs, st.en⟩ v' vV (w2.setCell ⟨b0, 0, none⟩ v') ∧ Stp n0 W (w2.setCell ⟨b0, 0, none⟩ v') := by
  have kb : ∀ {b : Nat} {c : Array Value} {t : TypeId}, W.heap[b]? = some (.cells c t (0, 0)) → some b ≠ vF.ownBlock → w2.heap[b]? = some (.cells c t (0, 0)) := fun {b c t} hb h2 => by
    have hlt := (Array.getElem?_eq_some_iff.1 hb).1
    rw [hg.block b (by simp; omega) h2]
    exact (Lib.alloc_old W _ b hlt).trans hb
  have k0 := kb h.c0 (Ne.symm (own_not h.oF h.c0 (by decide)))
  have k1 := kb h.c1 (Ne.symm (own_not h.oF h.c1 (by decide)))
  have k2 := kb h.c2 (Ne.symm (own_not h.oF h.c2 (by decide)))
  have k3 := kb h.c3 (Ne.symm (own_not h.oF h.c3 (by decide)))
  have k4 := kb h.c4 (Ne.symm (own_not h.oF h.c4 (by decide)))
  have ks := kb h.cs (Ne.symm (own_not h.oF h.cs (by decide)))
  have hV : w2.ownsRow n0 9 1 vV st.vs.length (strVals st.vs) := by
    refine own_move h.oV (fun g hg2 => ?_)
    obtain ⟨cells, hcc⟩ := own_typed h.oV g hg2
    exact (kb hcc (Ne.symm (own_not h.oF hcc (by decide)))).trans hcc.symm
  have hst : Stp n0 W w2 := ((FrameX.refl _ W).trans (FrameX.of_below ((Below.refl _ W).alloc (Nat.le_refl _) o))).grown hg (fun k hk _ => own_ex h.oF (by decide) hk.symm)
  refine ⟨by simp [World.cell?, k0], by simp [World.frozen?, k0], ⟨?_, blk_far k1 (ty_ne k1 k0 (by decide)) _, blk_far k2 (ty_ne k2 k0 (by decide)) _, blk_far k3 (ty_ne k3 k0 (by decide)) _, blk_far k4 (ty_ne k4 k0 (by decide)) _, blk_far ks (ty_ne ks k0 (by decide)) _, ?_,
    hV.kept (grownBy_setCell' w2 b0 _) (.inr (own_not hV k0 (by decide))), h.ne⟩, hst.setCell hb0 k0 (by decide) _ _⟩
  · have := blk_set k0 0 v'
    simpa using this
  · rw [fieldVals_snoc, List.length_append]
    exact hown'.kept (grownBy_setCell' w2 b0 _) (.inr (own_not hown' k0 (by decide)))

theorem pst_result (h : PSt n0 b0 b1 b2 b3 b4 bs raw st vF vV W) : Kd.R k35 35 W n0 (fun _ => True) vF st.fs := by
  refine ⟨fun _ _ => trivial, fieldVals st.fs, h.oF, fieldVals_length _, fun j p hj => ?_⟩
  have e : ((fieldVals st.fs).drop (j * 2)).take 2 = [.string p.f0, .string p.f1] := by
    have : ∀ (l : List S35) (j : Nat), l[j]? = some p → ((fieldVals l).drop (j * 2)).take 2 = [.string p.f0, .string p.f1] := by
      intro l
      induction l with
      | nil => intro j h; simp at h
      | cons x l ih =>
        intro j hj
        match j, hj with
        | 0, hj =>
          obtain rfl : x = p := by simpa using hj
          rfl
        | j + 1, hj =>
          have := ih j (by simpa using hj)
          have e1 : fieldVals (x :: l) = .string x.f0 :: .string x.f1 :: fieldVals l := rfl
          rw [e1, show (j + 1) * 2 = j * 2 + 1 + 1 by omega]
          exact this
    exact this st.fs j hj
  rw [show k35.sz = 2 from rfl, e]
  exact k35_mkM _ _ _ p
end
theorem cell_of {W : World} {b j : Nat} {c : Array Value} {t : TypeId} {v : Value} (h : W.heap[b]? = some (.cells c t (0, 0))) (hj : c[j]? = some v) : W.cell? ⟨b, j, none⟩ = some v := by simp [World.cell?, h, hj]
theorem frozen_of {W : World} {b j : Nat} {c : Array Value} {t : TypeId} (h : W.heap[b]? = some (.cells c t (0, 0))) : W.frozen? ⟨b, j, none⟩ = false := by simp [World.frozen?, h]
/-- The world with Parse's variables. -/
def w0P (w : World) (a0 : ByteArray) : World := (((((w.alloc (Obj.cells #[Value.slice none 0 0] 33)).alloc (Obj.cells #[Value.slice none 0 0] 42)).alloc (Obj.cells #[FIN w.heap.size (w.heap.size + 1)] 1)).alloc (Obj.cells #[ADD (w.heap.size + 1)] 76)).alloc (Obj.cells #[Value.int IntKind.i64 0] 3)).alloc (Obj.cells #[Value.string a0] 9)
theorem w0P_size (w : World) (a0 : ByteArray) : (w0P w a0).heap.size = w.heap.size + 6 := by unfold w0P; simp
theorem w0P_below (w : World) (a0 : ByteArray) : Below w.heap.size w (w0P w a0) := by
  unfold w0P
  exact ((((((Below.refl _ w).alloc (Nat.le_refl _) _).alloc (by simp) _).alloc (by simp <;> omega) _).alloc (by simp <;> omega) _).alloc (by simp <;> omega) _).alloc (by simp <;> omega) _
theorem alloc_at (X : World) (o : Obj) (i : Nat) (h : i = X.heap.size) : (X.alloc o).heap[i]? = some o := by rw [h]; exact World.alloc_heap_new X o
theorem alloc_old' (X : World) (o o' : Obj) (i : Nat) (h : X.heap[i]? = some o') : (X.alloc o).heap[i]? = some o' := (Lib.alloc_old X o i (Array.getElem?_eq_some_iff.1 h).1).trans h
theorem pst_start (w : World) (a0 : ByteArray) :
    PSt w.heap.size w.heap.size (w.heap.size + 1) (w.heap.size + 1 + 1) (w.heap.size + 1 + 1 + 1) (w.heap.size + 1 + 1 + 1 + 1) (w.heap.size + 1 + 1 + 1 + 1 + 1) a0 ⟨[], [], 0⟩ (.slice none 0 0) (.slice none 0 0) (w0P w a0) := by
  unfold w0P
  refine ⟨?_, ?_, ?_, ?_, ?_, ?_, own_nil _ _ _ _, own_nil _ _ _ _, by simp [Value.ownBlock]⟩
  · exact alloc_old' _ _ _ _ (alloc_old' _ _ _ _ (alloc_old' _ _ _ _ (alloc_old' _ _ _ _ (alloc_old' _ _ _ _ (alloc_at _ _ _ rfl)))))
  · exact alloc_old' _ _ _ _ (alloc_old' _ _ _ _ (alloc_old' _ _ _ _ (alloc_old' _ _ _ _ (alloc_at _ _ _ (by simp)))))
  · exact alloc_old' _ _ _ _ (alloc_old' _ _ _ _ (alloc_old' _ _ _ _ (alloc_at _ _ _ (by simp))))
  · exact alloc_old' _ _ _ _ (alloc_old' _ _ _ _ (alloc_at _ _ _ (by simp)))
  · exact alloc_old' _ _ _ _ (alloc_at _ _ _ (by simp))
  · exact alloc_at _ _ _ (by simp)
end Go.Proofs.YtieompfmhnpnaaaGreat.H
