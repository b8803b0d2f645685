/- Contracts by hand: header.Params: what it computes, and the state between two rounds. -/
import Derived.Test.YtieompfmhnpnaaaGreatXLp
import Derived.Test.YtieompfmhnpnaaaGreatXPval
import Derived.Test.YtieompfmhnpnaaaGreatXTok
import Derived.Test.YtieompfmhnpnaaaGreatXParseC
import Derived.Maps.OwnIn
import Derived.Maps.Views
import Derived.StringKeys
import Derived.Laws.EntriesVeiled
namespace Go.Proofs.YtieompfmhnpnaaaGreat.H
open Go.RowKit Go.Proofs.YtieompfmhnpnaaaGreatW.PrintWords Go.Proofs.YtieompfmhnpnaaaGreatW.PrintLast Go.Proofs.YtieompfmhnpnaaaGreatW.PrintMore
open Go.Maps (Keyed)
set_option linter.unusedVariables false
set_option linter.unusedSimpArgs false

/-! ### the iterator, of numbers -/
def pieceNo (s : ByteArray) (i : Nat) : ByteArray := (piecesOf s).getD i ⟨#[]⟩
theorem piecesAt_length (s : ByteArray) : ∀ (k fr : Nat) (q : Bool) (i : Nat), (piecesAt s k fr q i).length ≤ k + 1
  | 0, fr, q, i => by simp [piecesAt]
  | k + 1, fr, q, i => by
    rw [piecesAt]
    have h1 := piecesAt_length s k fr q (i + 2)
    have h2 := piecesAt_length s k fr (!q) (i + 1)
    have h3 := piecesAt_length s k (i + 1) q (i + 1)
    have h4 := piecesAt_length s k fr q (i + 1)
    split
    · split
      · omega
      · split
        · omega
        · split
          · rw [List.length_cons]; omega
          · omega
    · simp
theorem piecesAt_size (s : ByteArray) : ∀ (k fr : Nat) (q : Bool) (i : Nat), ∀ x ∈ piecesAt s k fr q i, x.size ≤ s.size
  | 0, fr, q, i => by
    intro x hx
    obtain rfl : x = s.extract fr s.size := by simpa [piecesAt] using hx
    simp
  | k + 1, fr, q, i => by
    rw [piecesAt]
    split
    · split
      · exact piecesAt_size s k fr q (i + 2)
      · split
        · exact piecesAt_size s k fr (!q) (i + 1)
        · split
          · intro x hx
            rcases List.mem_cons.1 hx with rfl | hx
            · simp; omega
            · exact piecesAt_size s k (i + 1) q (i + 1) x hx
          · exact piecesAt_size s k fr q (i + 1)
    · intro x hx
      obtain rfl : x = s.extract fr s.size := by simpa using hx
      simp
theorem pieceNo_size (s : ByteArray) (i : Nat) : (pieceNo s i).size ≤ s.size := by
  unfold pieceNo
  rw [List.getD_eq_getElem?_getD]
  cases h : (piecesOf s)[i]? with
  | none => exact Nat.zero_le _
  | some x => exact piecesAt_size s _ _ _ _ x (List.mem_of_getElem? h)
theorem pieces_stops (n bs : Nat) (s : ByteArray) (hs : s.size ≤ 1099511627776) (w : World) (hb : bs < w.heap.size) (hc : w.heap[bs]? = some (.cells #[.string s] 9 (0, 0))) :
    SeqStopsK Fence.wide n Tryz.prog 70 #[.pointer (some ⟨bs, 0, none⟩)] (fun i : Nat => #[Value.string (pieceNo s i)]) (fun W W' => W'.heap[bs]? = W.heap[bs]?) (fun xs => xs.map (pieceNo s) = piecesOf s) (fun pre => pre.map (pieceNo s) <+: piecesOf s) (piecesOf s).length w := fun l J Jx W hW hJ hJx hY h0 => by
  refine (pieces1_in n l bs s hs (fun pre W => ∃ is : List Nat, is.map (pieceNo s) = pre ∧ J is W) (fun pre W => ∃ is : List Nat, is.map (pieceNo s) = pre ∧ Jx is W) ?_ W ((hW.block bs hb).trans hc) ⟨[], rfl, h0⟩).mono ?_
  · rintro pre x W1 hx ⟨is, rfl, hj⟩ hl
    obtain ⟨i, hi, rfl⟩ := List.getElem_of_mem hx
    have e : pieceNo s i = (piecesOf s)[i] := by unfold pieceNo; rw [List.getD_eq_getElem?_getD, List.getElem?_eq_getElem hi]; rfl
    rw [List.length_map] at hl
    obtain ⟨fn, tmps, assign, body, hy, hR⟩ := hY is i W1 hj hl
    dsimp only at hy
    rw [e] at hy
    refine ⟨fn, tmps, assign, body, hy, hR.mono ?_⟩
    rintro e' W' (⟨rfl, h1, h2⟩ | ⟨rfl, h1⟩)
    · exact .inl ⟨rfl, ⟨is ++ [i], by simp [e], h1⟩, h2⟩
    · exact .inr ⟨rfl, is ++ [i], by simp [e], h1⟩
  · rintro e W' ⟨hv, ⟨ys, rfl, is, hi, hj⟩ | ⟨pre, hp, is, rfl, hj⟩⟩
    · exact ⟨hv, .inl ⟨is, hi, hj⟩⟩
    · exact ⟨hv, .inr ⟨is, hp, hj⟩⟩
attribute [local go_sem] Oper.semAt_some
attribute [local go_sem] wide_fn wide_depth wide_fn_r wide_depth_r
theorem pieces_in (n : Nat) (s : ByteArray) (w : World) :
    CallsIn Fence.wide n Tryz.prog 39 #[.string s] w fun e w' => e = .returned (.func (.func 70) #[] #[.pointer (some ⟨w.heap.size, 0, none⟩)]) ∧ w' = w.alloc (.cells #[.string s] 9) := by
  refine callsIn_of_wp Tryz.func39 rfl trivial ?_ rfl
  simp only [Tryz.ntmps39, List.size_toArray, List.length_cons, List.length_nil, Nat.reduceAdd, Nat.reduceSub, Array.replicate_succ, Array.replicate_zero, List.push_toArray, List.append_toArray, List.nil_append, List.cons_append]
  gi_wp2
  go_ret
  exact ⟨rfl, rfl⟩

/-! ### what Params computes -/
structure QP where
  main : ByteArray
  first : Bool
  ps : List S25
def namesOf (l : List S25) : List ByteArray := l.map (·.f0)
theorem lowS_size (s : ByteArray) : (lowS s).size = s.size := by
  show (lowS s).data.size = s.data.size
  unfold lowS
  simp
/-- The name of a piece. -/
def pnameS (x : ByteArray) : ByteArray := lowS (trimS (cutAt x 61).1)
/-- Is a string among others? -/
def inB (x : ByteArray) (ns : List ByteArray) : Bool := ns.any fun y => bl y == bl x
def stepQ (st : QP) (x : ByteArray) : QP :=
  if st.first = true then ⟨trimS x, false, st.ps⟩
  else if (cutAt x 61).2.2 = false ∨ isTokenB (pnameS x) = false ∨ inB (pnameS x) (namesOf st.ps) = true then st
  else if (valueS (trimS (cutAt x 61).2.1)).2 = true then ⟨st.main, st.first, st.ps ++ [⟨pnameS x, (valueS (trimS (cutAt x 61).2.1)).1⟩]⟩
  else st
def foldQ (st : QP) (xs : List ByteArray) : QP := xs.foldl stepQ st
def paramsS (s : ByteArray) : ByteArray × List S25 :=
  let st := foldQ ⟨⟨#[]⟩, true, []⟩ (piecesOf s)
  (st.main, st.ps)
theorem foldQ_snoc (st : QP) (xs : List ByteArray) (x : ByteArray) : foldQ st (xs ++ [x]) = stepQ (foldQ st xs) x := by simp [foldQ]
theorem stepQ_len (st : QP) (x : ByteArray) : (stepQ st x).ps.length ≤ st.ps.length + 1 := by
  unfold stepQ
  split
  · exact Nat.le_succ _
  · split
    · exact Nat.le_succ _
    · split
      · simp
      · exact Nat.le_succ _
theorem foldQ_len (st : QP) (xs : List ByteArray) : (foldQ st xs).ps.length ≤ st.ps.length + xs.length := by
  induction xs generalizing st with
  | nil => exact Nat.le_refl _
  | cons x xs ih =>
    have h1 := ih (stepQ st x)
    have h2 := stepQ_len st x
    show (foldQ (stepQ st x) xs).ps.length ≤ _
    rw [List.length_cons]
    omega

/-! ### the map of names -/
abbrev DQ := DataW Unit
def seenD (ns : List ByteArray) : DQ := ns.foldl (fun D x => D.put (.string x.data.toList) (.lit (.bool true))) (.map [])
theorem seenD_snoc (ns : List ByteArray) (x : ByteArray) : seenD (ns ++ [x]) = (seenD ns).put (.string x.data.toList) (.lit (.bool true)) := by simp [seenD]
theorem seenD_isMap (ns : List ByteArray) : Maps.IsMap (seenD ns) := by
  rcases List.eq_nil_or_concat ns with rfl | ⟨ms, x, rfl⟩
  · exact Maps.isMap_empty
  · rw [List.concat_eq_append, seenD_snoc]
    exact (seenD_isMap ms).put _ _
termination_by ns.length
decreasing_by all_goals (subst_vars; simp)
theorem seenD_at (ns : List ByteArray) (x : ByteArray) : (seenD ns).atKey (.string x.data.toList) (.lit (.bool false)) = .lit (.bool (inB x ns)) := by
  rcases List.eq_nil_or_concat ns with rfl | ⟨ms, y, rfl⟩
  · rfl
  · rw [List.concat_eq_append, seenD_snoc]
    by_cases e : x = y
    · subst e
      rw [Maps.atKey_put_same (seenD_isMap ms) (by exact trivial)]
      simp [inB]
    · rw [Maps.atKey_put_other (fun h => e (by
        injection h with h
        exact ByteArray.ext (Array.toList_inj.1 h)))]
      rw [seenD_at ms x]
      have e2 : (bl y == bl x) = false := by
        rw [beq_eq_false_iff_ne]
        exact fun h => e (bl_inj h).symm
      unfold inB
      rw [List.any_append]
      simp only [List.any_cons, List.any_nil, e2, Bool.or_false]
termination_by ns.length
decreasing_by all_goals (subst_vars; simp)
theorem K9 : Keyed Tryz.prog 9 := Maps.string_keyed Tryz.underlying9

def paramVals (l : List S25) : List Value := l.flatMap fun f => [.string f.f0, .string f.f1]
theorem paramVals_length (l : List S25) : (paramVals l).length = l.length * 2 := by
  induction l with
  | nil => rfl
  | cons x l ih => unfold paramVals at *; simp at *; omega
theorem paramVals_snoc (l : List S25) (f : S25) : paramVals (l ++ [f]) = paramVals l ++ [.string f.f0, .string f.f1] := by simp [paramVals]

/-! ### the state in the heap -/
structure QSt (n0 b0 b1 b2 bm b3 bs : Nat) (raw : ByteArray) (st : QP) (ns : List ByteArray) (vP : Value) (W : World) : Prop where
  c0 : W.heap[b0]? = some (.cells #[.string st.main] 9 (0, 0))
  c1 : W.heap[b1]? = some (.cells #[.bool st.first] 4 (0, 0))
  c2 : W.heap[b2]? = some (.cells #[vP] 22 (0, 0))
  c3 : W.heap[b3]? = some (.cells #[.map (some bm)] 54 (0, 0))
  cs : W.heap[bs]? = some (.cells #[.string raw] 9 (0, 0))
  oP : W.ownsRow n0 25 2 vP st.ps.length (paramVals st.ps)
  mp : W.ownsMap Tryz.prog 9 (plainElem Tryz.prog 4) bm ns.length (seenD ns)
section
variable {n0 b0 b1 b2 bm b3 bs : Nat} {raw : ByteArray} {st : QP} {ns : List ByteArray} {vP : Value} {W : World}
theorem qst_own (X Y : World) (row : Option Nat) (h : QSt n0 b0 b1 b2 bm b3 bs raw st ns vP X) (hg : X.grownBy Y row) (hr : ∀ r, row = some r → bm < r ∧ ∃ o : Obj, X.heap[r]? = some o ∧ o.isCells = false) : QSt n0 b0 b1 b2 bm b3 bs raw st ns vP Y := by
  have k : ∀ {b : Nat} {c : Array Value} {t : TypeId}, X.heap[b]? = some (.cells c t (0, 0)) → Y.heap[b]? = some (.cells c t (0, 0)) := fun {b c t} hb =>
    (grownBy_keeps_cells hg (fun r e => (hr r e).2) hb rfl).trans hb
  have ko : ∀ {e : TypeId} {size n : Nat} {v : Value} {xs : List Value}, X.ownsRow n0 e size v n xs → Y.ownsRow n0 e size v n xs := fun {e size n v xs} ho => by
    refine ho.kept hg ?_
    cases hv : v.ownBlock with
    | none => exact .inl rfl
    | some g =>
      refine .inr (fun e' => ?_)
      obtain ⟨cells, hc⟩ := own_typed ho g hv
      obtain ⟨_, o, h1, h2⟩ := hr g e'.symm
      rw [hc] at h1
      cases h1
      cases h2
  exact ⟨k h.c0, k h.c1, k h.c2, k h.c3, k h.cs, ko h.oP, h.mp.kept hg (fun e => by have := (hr bm e.symm).1; omega)⟩
theorem qst_below {w' : World} (h : QSt n0 b0 b1 b2 bm b3 bs raw st ns vP W) (hb : Below W.heap.size W w') : QSt n0 b0 b1 b2 bm b3 bs raw st ns vP w' :=
  qst_own W w' none h (grown_of_below hb none) (fun r e => by cases e)
theorem keeps_below {w' : World} (B : Nat) (hb : Below W.heap.size W w') : KeepsFrom B W w' := KeepsFrom.of_grownBy (grown_of_below hb none) (fun r e => by cases e)
theorem qst_set {b : Nat} {c : Array Value} {t : TypeId} {v : Value} {st' : QP} (h : QSt n0 b0 b1 b2 bm b3 bs raw st ns vP W) (hc : W.heap[b]? = some (.cells c t (0, 0))) (ht : t ≠ 25)
    (k0 : (W.setCell ⟨b, 0, none⟩ v).heap[b0]? = some (.cells #[.string st'.main] 9 (0, 0))) (k1 : (W.setCell ⟨b, 0, none⟩ v).heap[b1]? = some (.cells #[.bool st'.first] 4 (0, 0)))
    (k2 : b ≠ b2) (k3 : b ≠ b3) (ks : b ≠ bs) (hp : st'.ps = st.ps) : QSt n0 b0 b1 b2 bm b3 bs raw st' ns vP (W.setCell ⟨b, 0, none⟩ v) :=
  ⟨k0, k1, blk_far h.c2 (Ne.symm k2) _, blk_far h.c3 (Ne.symm k3) _, blk_far h.cs (Ne.symm ks) _, by rw [hp]; exact h.oP.kept (grownBy_setCell' W b _) (.inr (own_not h.oP hc ht)),
    h.mp.kept (grownBy_setCell' W b _) (fun e => by
      injection e with e
      obtain ⟨es, clock, hb, _⟩ := h.mp
      rw [e, hc] at hb
      cases hb)⟩
theorem qst_app (h : QSt n0 b0 b1 b2 bm b3 bs raw st ns vP W) (hb2 : n0 ≤ b2) (hn : n0 ≤ W.heap.size) {o : Obj} {w2 : World} {v' : Value} {nm v : ByteArray} (B : Nat)
    (hown' : w2.ownsRow n0 25 2 v' (st.ps.length + 1) (paramVals st.ps ++ [.string nm, .string v])) (hg : (W.alloc o).grownBy w2 vP.ownBlock) :
    w2.cell? ⟨b2, 0, none⟩ = some vP ∧ w2.frozen? ⟨b2, 0, none⟩ = false ∧ QSt n0 b0 b1 b2 bm b3 bs raw ⟨st.main, st.first, st.ps ++ [⟨nm, v⟩]⟩ ns v' (w2.setCell ⟨b2, 0, none⟩ v') ∧ Below n0 W (w2.setCell ⟨b2, 0, none⟩ v') ∧ KeepsFrom B W (w2.setCell ⟨b2, 0, none⟩ v') := by
  have kb : ∀ {b : Nat} {c : Array Value} {t : TypeId}, W.heap[b]? = some (.cells c t (0, 0)) → some b ≠ vP.ownBlock → w2.heap[b]? = some (.cells c t (0, 0)) := fun {b c t} hb h2 => by
    have hlt := (Array.getElem?_eq_some_iff.1 hb).1
    rw [hg.block b (by simp; omega) h2]
    exact (Lib.alloc_old W _ b hlt).trans hb
  have k0 := kb h.c0 (Ne.symm (own_not h.oP h.c0 (by decide)))
  have k1 := kb h.c1 (Ne.symm (own_not h.oP h.c1 (by decide)))
  have k2 := kb h.c2 (Ne.symm (own_not h.oP h.c2 (by decide)))
  have k3 := kb h.c3 (Ne.symm (own_not h.oP h.c3 (by decide)))
  have ks := kb h.cs (Ne.symm (own_not h.oP h.cs (by decide)))
  have rowcells : ∀ j o', vP.ownBlock = some j → (W.alloc o).heap[j]? = some o' → o'.isCells = true := fun j o' hj ho => by
    obtain ⟨cells, hc⟩ := own_typed (h.oP.alloc o) j hj
    rw [hc] at ho
    cases ho
    rfl
  have hm : w2.ownsMap Tryz.prog 9 (plainElem Tryz.prog 4) bm ns.length (seenD ns) := by
    refine (h.mp.alloc o).kept hg (fun e => ?_)
    obtain ⟨es, clock, hb, _⟩ := h.mp.alloc o
    have := rowcells bm _ e.symm hb
    cases this
  refine ⟨by simp [World.cell?, k2], by simp [World.frozen?, k2], ⟨blk_far k0 (ty_ne k0 k2 (by decide)) _, blk_far k1 (ty_ne k1 k2 (by decide)) _, ?_, blk_far k3 (ty_ne k3 k2 (by decide)) _, blk_far ks (ty_ne ks k2 (by decide)) _, ?_, ?_⟩, ?_, ?_⟩
  · have := blk_set k2 0 v'
    simpa using this
  · rw [paramVals_snoc, List.length_append]
    exact hown'.kept (grownBy_setCell' w2 b2 _) (.inr (own_not hown' k2 (by decide)))
  · exact hm.kept (grownBy_setCell' w2 b2 _) (fun e => by
      injection e with e
      obtain ⟨es, clock, hb, _⟩ := hm
      rw [e, k2] at hb
      cases hb)
  · refine Below.setCell ?_ (p := ⟨b2, 0, none⟩) hb2 v'
    refine (((Below.refl n0 W).alloc hn o).grown hg (by simp; omega) (fun j ej => own_base (h.oP.alloc o) j ej))
  · refine (((KeepsOthers.alloc W o).trans (KeepsOthers.of_grownBy hg rowcells)).trans (KeepsOthers.setCell _ _ _)).from B

theorem qst_map (h : QSt n0 b0 b1 b2 bm b3 bs raw st ns vP W) (hbm : n0 ≤ bm) (hn : n0 ≤ W.heap.size) {w2 : World} {nm : ByteArray} (B : Nat) (hB : bm < B)
    (hm : w2.ownsMap Tryz.prog 9 (plainElem Tryz.prog 4) bm (ns.length + 1) ((seenD ns).put (.string nm.data.toList) (.lit (.bool true)))) (hg : W.grownBy w2 (some bm)) :
    QSt n0 b0 b1 b2 bm b3 bs raw st (ns ++ [nm]) vP w2 ∧ Below n0 W w2 ∧ KeepsFrom B W w2 := by
  have kb : ∀ {b : Nat} {c : Array Value} {t : TypeId}, W.heap[b]? = some (.cells c t (0, 0)) → w2.heap[b]? = some (.cells c t (0, 0)) := fun {b c t} hb =>
    (hg.block b (Array.getElem?_eq_some_iff.1 hb).1 (fun e => by
      injection e with e
      obtain ⟨es, clock, h2, _⟩ := h.mp
      rw [← e, hb] at h2
      cases h2)).trans hb
  refine ⟨⟨kb h.c0, kb h.c1, kb h.c2, kb h.c3, kb h.cs, ?_, ?_⟩, (Below.refl n0 W).grown hg hn (fun k e => by injection e with e; omega), KeepsFrom.of_grownBy hg (fun j e => by injection e with e; omega)⟩
  · refine own_move h.oP (fun g hg2 => ?_)
    obtain ⟨cells, hcc⟩ := own_typed h.oP g hg2
    exact (kb hcc).trans hcc.symm
  · rw [seenD_snoc, List.length_append]
    exact hm

theorem qst_first (h : QSt n0 b0 b1 b2 bm b3 bs raw st ns vP W) (hb0 : n0 ≤ b0) (hb1 : n0 ≤ b1) (hbs : b0 ≠ bs) (m : ByteArray) (B : Nat) :
    QSt n0 b0 b1 b2 bm b3 bs raw ⟨m, false, st.ps⟩ ns vP ((W.setCell ⟨b0, 0, none⟩ (.string m)).setCell ⟨b1, 0, none⟩ (.bool false)) ∧ Below n0 W ((W.setCell ⟨b0, 0, none⟩ (.string m)).setCell ⟨b1, 0, none⟩ (.bool false)) ∧
      KeepsFrom B W ((W.setCell ⟨b0, 0, none⟩ (.string m)).setCell ⟨b1, 0, none⟩ (.bool false)) := by
  have n01 : b0 ≠ b1 := ty_ne h.c0 h.c1 (by decide)
  have s0 : (W.setCell ⟨b0, 0, none⟩ (.string m)).heap[b0]? = some (.cells #[.string m] 9 (0, 0)) := by
    have := blk_set h.c0 0 (.string m)
    simpa using this
  have h1 : QSt n0 b0 b1 b2 bm b3 bs raw ⟨m, st.first, st.ps⟩ ns vP (W.setCell ⟨b0, 0, none⟩ (.string m)) :=
    qst_set h h.c0 (by decide) s0 (blk_far h.c1 (Ne.symm n01) _) (ty_ne h.c0 h.c2 (by decide)) (ty_ne h.c0 h.c3 (by decide)) hbs rfl
  have s1 : ((W.setCell ⟨b0, 0, none⟩ (.string m)).setCell ⟨b1, 0, none⟩ (.bool false)).heap[b1]? = some (.cells #[.bool false] 4 (0, 0)) := by
    have := blk_set h1.c1 0 (.bool false)
    simpa using this
  refine ⟨qst_set h1 h1.c1 (by decide) (blk_far h1.c0 n01 _) s1 (ty_ne h1.c1 h1.c2 (by decide)) (ty_ne h1.c1 h1.c3 (by decide)) (ty_ne h1.c1 h1.cs (by decide)) rfl,
    ((Below.refl n0 W).setCell (p := ⟨b0, 0, none⟩) hb0 _).setCell (p := ⟨b1, 0, none⟩) hb1 _, ((KeepsOthers.setCell _ _ _).trans (KeepsOthers.setCell _ _ _)).from B⟩

set_option maxRecDepth 100000 in
theorem qst_look (h : QSt n0 b0 b1 b2 bm b3 bs raw st ns vP W) (nm : ByteArray) (hs : nm.size ≤ maxLen) :
    (Instr.lookup 54 (.map (some bm)) (.string nm) false).run Tryz.prog W = .ok (.bool (inB nm ns)) W := by
  obtain ⟨v, ps, hrun, hv⟩ := h.mp.lookup (t := 54) K9 Tryz.underlying54 (Tryz.zeroValue4 W) (plainElem_bool Tryz.underlying4 false) (WideMaps.keyOf_string_mk Tryz.underlying9 hs)
  rw [seenD_at] at hv
  have : v = .bool (inB nm ns) := by
    unfold plainElem at hv
    rw [Tryz.underlying4] at hv
    cases v <;> simp at hv
    rw [hv.1]
  rw [hrun, this]

theorem qst_result (h : QSt n0 b0 b1 b2 bm b3 bs raw st ns vP W) : Kd.R k25 25 W n0 (fun _ => True) vP st.ps := by
  refine ⟨fun _ _ => trivial, paramVals st.ps, h.oP, paramVals_length _, fun j p hj => ?_⟩
  have e : ((paramVals st.ps).drop (j * 2)).take 2 = [.string p.f0, .string p.f1] := by
    have : ∀ (l : List S25) (j : Nat), l[j]? = some p → ((paramVals l).drop (j * 2)).take 2 = [.string p.f0, .string p.f1] := by
      intro l
      induction l with
      | nil => intro j h; simp at h
      | cons x l ih =>
        intro j hj
        match j, hj with
        | 0, hj =>
          obtain rfl : x = p := by simpa using hj
          rfl
        | j + 1, hj =>
          have := ih j (by simpa using hj)
          have e1 : paramVals (x :: l) = .string x.f0 :: .string x.f1 :: paramVals l := rfl
          rw [e1, show (j + 1) * 2 = j * 2 + 1 + 1 by omega]
          exact this
    exact this st.ps j hj
  rw [show k25.sz = 2 from rfl, e]
  exact k25_mkM _ _ _ p
end
/-- The world with Params' variables. -/
def w0Q (w : World) (a0 : ByteArray) : World := (((((w.alloc (Obj.cells #[Value.string ⟨#[]⟩] 9)).alloc (Obj.cells #[Value.bool true] 4)).alloc (Obj.cells #[Value.slice none 0 0] 22)).alloc (Obj.map #[] 0)).alloc (Obj.cells #[Value.map (some (w.heap.size + 1 + 1 + 1))] 54)).alloc (Obj.cells #[Value.string a0] 9)
theorem w0Q_size (w : World) (a0 : ByteArray) : (w0Q w a0).heap.size = w.heap.size + 6 := by unfold w0Q; simp
theorem w0Q_below (w : World) (a0 : ByteArray) : Below w.heap.size w (w0Q w a0) := by
  unfold w0Q
  exact ((((((Below.refl _ w).alloc (Nat.le_refl _) _).alloc (by simp) _).alloc (by simp <;> omega) _).alloc (by simp <;> omega) _).alloc (by simp <;> omega) _).alloc (by simp <;> omega) _
theorem qst_start (w : World) (a0 : ByteArray) :
    QSt w.heap.size w.heap.size (w.heap.size + 1) (w.heap.size + 1 + 1) (w.heap.size + 1 + 1 + 1) (w.heap.size + 1 + 1 + 1 + 1) (w.heap.size + 1 + 1 + 1 + 1 + 1) a0 ⟨⟨#[]⟩, true, []⟩ [] (.slice none 0 0) (w0Q w a0) := by
  unfold w0Q
  refine ⟨?_, ?_, ?_, ?_, ?_, own_nil _ _ _ _, ?_⟩
  · exact alloc_old' _ _ _ _ (alloc_old' _ _ _ _ (alloc_old' _ _ _ _ (alloc_old' _ _ _ _ (alloc_old' _ _ _ _ (alloc_at _ _ _ rfl)))))
  · exact alloc_old' _ _ _ _ (alloc_old' _ _ _ _ (alloc_old' _ _ _ _ (alloc_old' _ _ _ _ (alloc_at _ _ _ (by simp)))))
  · exact alloc_old' _ _ _ _ (alloc_old' _ _ _ _ (alloc_old' _ _ _ _ (alloc_at _ _ _ (by simp))))
  · exact alloc_old' _ _ _ _ (alloc_at _ _ _ (by simp))
  · exact alloc_at _ _ _ (by simp)
  · have := World.ownsMap_made (H := Unit) (((w.alloc (Obj.cells #[Value.string ⟨#[]⟩] 9)).alloc (Obj.cells #[Value.bool true] 4)).alloc (Obj.cells #[Value.slice none 0 0] 22)) Tryz.prog 9 (plainElem Tryz.prog 4)
    simp only [World.size_alloc] at this
    exact (this.alloc _).alloc _
end Go.Proofs.YtieompfmhnpnaaaGreat.H
