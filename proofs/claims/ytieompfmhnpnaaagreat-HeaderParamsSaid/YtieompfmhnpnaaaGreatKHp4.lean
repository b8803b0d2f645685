/- Part 4 of the proof of Hp: contracts and plain laws, joined and shortened by bundle.py of this repo. -/
import Derived.Test.YtieompfmhnpnaaaGreatKHp3
import Derived.Maps.OwnIn
import Derived.Maps.Views
import Derived.StringKeys
import Derived.Laws.EntriesVeiled
import Derived.Carry
section
namespace Go.Proofs.YtieompfmhnpnaaaGreat.H
open Go.RowKit Go.Proofs.YtieompfmhnpnaaaGreatW.PrintWords Go.Proofs.YtieompfmhnpnaaaGreatW.PrintLast Go.Proofs.YtieompfmhnpnaaaGreatW.PrintMore
open Go.Maps (Keyed)
set_option linter.unusedVariables false
set_option linter.unusedSimpArgs false
def pieceNo (s : ByteArray) (i : Nat) : ByteArray := (piecesOf s).getD i ⟨#[]⟩
theorem piecesAt_length (s : ByteArray) : ∀ (k fr : Nat) (q : Bool) (i : Nat), (piecesAt s k fr q i).length ≤ k + 1
  | 0, fr, q, i => by simp [piecesAt]
  | k + 1, fr, q, i => by
    rw [piecesAt]
    have h1 := piecesAt_length s k fr q (i + 2)
    have h2 := piecesAt_length s k fr (!q) (i + 1)
    have h3 := piecesAt_length s k (i + 1) q (i + 1)
    have h4 := piecesAt_length s k fr q (i + 1)
    split
    · split
      · omega
      · split
        · omega
        · split
          · rw [List.length_cons]; omega
          · omega
    · simp
theorem piecesAt_size (s : ByteArray) : ∀ (k fr : Nat) (q : Bool) (i : Nat), ∀ x ∈ piecesAt s k fr q i, x.size ≤ s.size
  | 0, fr, q, i => by
    intro x hx
    obtain rfl : x = s.extract fr s.size := by simpa [piecesAt] using hx
    simp
  | k + 1, fr, q, i => by
    rw [piecesAt]
    split
    · split
      · exact piecesAt_size s k fr q (i + 2)
      · split
        · exact piecesAt_size s k fr (!q) (i + 1)
        · split
          · intro x hx
            rcases List.mem_cons.1 hx with rfl | hx
            · simp; omega
            · exact piecesAt_size s k (i + 1) q (i + 1) x hx
          · exact piecesAt_size s k fr q (i + 1)
    · intro x hx
      obtain rfl : x = s.extract fr s.size := by simpa using hx
      simp
theorem pieceNo_size (s : ByteArray) (i : Nat) : (pieceNo s i).size ≤ s.size := by
  unfold pieceNo
  rw [List.getD_eq_getElem?_getD]
  cases h : (piecesOf s)[i]? with
  | none => exact Nat.zero_le _
  | some x => exact piecesAt_size s _ _ _ _ x (List.mem_of_getElem? h)
theorem pieces_stops (n bs : Nat) (s : ByteArray) (hs : s.size ≤ 1099511627776) (w : World) (hb : bs < w.heap.size) (hc : w.heap[bs]? = some (.cells #[.string s] 9 (0, 0))) :
    SeqStopsK Fence.wide n Tryz.prog 70 #[.pointer (some ⟨bs, 0, none⟩)] (fun i : Nat => #[Value.string (pieceNo s i)]) (fun W W' => W'.heap[bs]? = W.heap[bs]?) (fun xs => xs.map (pieceNo s) = piecesOf s) (fun pre => pre.map (pieceNo s) <+: piecesOf s) (piecesOf s).length w := fun l J Jx W hW hJ hJx hY h0 => by
  refine (pieces1_in n l bs s hs (fun pre W => ∃ is : List Nat, is.map (pieceNo s) = pre ∧ J is W) (fun pre W => ∃ is : List Nat, is.map (pieceNo s) = pre ∧ Jx is W) ?_ W ((hW.block bs hb).trans hc) ⟨[], rfl, h0⟩).mono ?_
  · rintro pre x W1 hx ⟨is, rfl, hj⟩ hl
    obtain ⟨i, hi, rfl⟩ := List.getElem_of_mem hx
    have e : pieceNo s i = (piecesOf s)[i] := by unfold pieceNo; rw [List.getD_eq_getElem?_getD, List.getElem?_eq_getElem hi]; rfl
    rw [List.length_map] at hl
    obtain ⟨fn, tmps, assign, body, hy, hR⟩ := hY is i W1 hj hl
    dsimp only at hy
    rw [e] at hy
    refine ⟨fn, tmps, assign, body, hy, hR.mono ?_⟩
    rintro e' W' (⟨rfl, h1, h2⟩ | ⟨rfl, h1⟩)
    · exact .inl ⟨rfl, ⟨is ++ [i], by simp [e], h1⟩, h2⟩
    · exact .inr ⟨rfl, is ++ [i], by simp [e], h1⟩
  · rintro e W' ⟨hv, ⟨ys, rfl, is, hi, hj⟩ | ⟨pre, hp, is, rfl, hj⟩⟩
    · exact ⟨hv, .inl ⟨is, hi, hj⟩⟩
    · exact ⟨hv, .inr ⟨is, hp, hj⟩⟩
attribute [local go_sem] Oper.semAt_some
attribute [local go_sem] wide_fn wide_depth wide_fn_r wide_depth_r
theorem pieces_in (n : Nat) (s : ByteArray) (w : World) :
    CallsIn Fence.wide n Tryz.prog 39 #[.string s] w fun e w' => e = .returned (.func (.func 70) #[] #[.pointer (some ⟨w.heap.size, 0, none⟩)]) ∧ w' = w.alloc (.cells #[.string s] 9) := by
  refine callsIn_of_wp Tryz.func39 rfl trivial ?_ rfl
  simp only [Tryz.ntmps39, List.size_toArray, List.length_cons, List.length_nil, Nat.reduceAdd, Nat.reduceSub, Array.replicate_succ, Array.replicate_zero, List.push_toArray, List.append_toArray, List.nil_append, List.cons_append]
  gi_wp2
  go_ret
  exact ⟨rfl, rfl⟩
structure QP where
  main : ByteArray
  first : Bool
  ps : List S25
def namesOf (l : List S25) : List ByteArray := l.map (·.f0)
theorem lowS_size (s : ByteArray) : (lowS s).size = s.size := by
  show (lowS s).data.size = s.data.size
  unfold lowS
  simp
def pnameS (x : ByteArray) : ByteArray := lowS (trimS (cutAt x 61).1)
def inB (x : ByteArray) (ns : List ByteArray) : Bool := ns.any fun y => bl y == bl x
def stepQ (st : QP) (x : ByteArray) : QP :=
  if st.first = true then ⟨trimS x, false, st.ps⟩
  else if (cutAt x 61).2.2 = false ∨ isTokenB (pnameS x) = false ∨ inB (pnameS x) (namesOf st.ps) = true then st
  else if (valueS (trimS (cutAt x 61).2.1)).2 = true then ⟨st.main, st.first, st.ps ++ [⟨pnameS x, (valueS (trimS (cutAt x 61).2.1)).1⟩]⟩
  else st
def foldQ (st : QP) (xs : List ByteArray) : QP := xs.foldl stepQ st
def paramsS (s : ByteArray) : ByteArray × List S25 :=
  let st := foldQ ⟨⟨#[]⟩, true, []⟩ (piecesOf s)
  (st.main, st.ps)
theorem foldQ_snoc (st : QP) (xs : List ByteArray) (x : ByteArray) : foldQ st (xs ++ [x]) = stepQ (foldQ st xs) x := by simp [foldQ]
theorem stepQ_len (st : QP) (x : ByteArray) : (stepQ st x).ps.length ≤ st.ps.length + 1 := by
  unfold stepQ
  split
  · exact Nat.le_succ _
  · split
    · exact Nat.le_succ _
    · split
      · simp
      · exact Nat.le_succ _
theorem foldQ_len (st : QP) (xs : List ByteArray) : (foldQ st xs).ps.length ≤ st.ps.length + xs.length := by
  induction xs generalizing st with
  | nil => exact Nat.le_refl _
  | cons x xs ih =>
    have h1 := ih (stepQ st x)
    have h2 := stepQ_len st x
    show (foldQ (stepQ st x) xs).ps.length ≤ _
    rw [List.length_cons]
    omega
abbrev DQ := DataW Unit
def seenD (ns : List ByteArray) : DQ := ns.foldl (fun D x => D.put (.string x.data.toList) (.lit (.bool true))) (.map [])
theorem seenD_snoc (ns : List ByteArray) (x : ByteArray) : seenD (ns ++ [x]) = (seenD ns).put (.string x.data.toList) (.lit (.bool true)) := by simp [seenD]
theorem seenD_isMap (ns : List ByteArray) : Maps.IsMap (seenD ns) := by
  rcases List.eq_nil_or_concat ns with rfl | ⟨ms, x, rfl⟩
  · exact Maps.isMap_empty
  · rw [List.concat_eq_append, seenD_snoc]
    exact (seenD_isMap ms).put _ _
termination_by ns.length
decreasing_by all_goals (subst_vars; simp)
theorem seenD_at (ns : List ByteArray) (x : ByteArray) : (seenD ns).atKey (.string x.data.toList) (.lit (.bool false)) = .lit (.bool (inB x ns)) := by
  rcases List.eq_nil_or_concat ns with rfl | ⟨ms, y, rfl⟩
  · rfl
  · rw [List.concat_eq_append, seenD_snoc]
    by_cases e : x = y
    · subst e
      rw [Maps.atKey_put_same (seenD_isMap ms) (by exact trivial)]
      simp [inB]
    · rw [Maps.atKey_put_other (fun h => e (by
        injection h with h
        exact ByteArray.ext (Array.toList_inj.1 h)))]
      rw [seenD_at ms x]
      have e2 : (bl y == bl x) = false := by
        rw [beq_eq_false_iff_ne]
        exact fun h => e (bl_inj h).symm
      unfold inB
      rw [List.any_append]
      simp only [List.any_cons, List.any_nil, e2, Bool.or_false]
termination_by ns.length
decreasing_by all_goals (subst_vars; simp)
theorem K9 : Keyed Tryz.prog 9 := Maps.string_keyed Tryz.underlying9
def paramVals (l : List S25) : List Value := l.flatMap fun f => [.string f.f0, .string f.f1]
theorem paramVals_length (l : List S25) : (paramVals l).length = l.length * 2 := by
  induction l with
  | nil => rfl
  | cons x l ih => unfold paramVals at *; simp at *; omega
theorem paramVals_snoc (l : List S25) (f : S25) : paramVals (l ++ [f]) = paramVals l ++ [.string f.f0, .string f.f1] := by simp [paramVals]
structure QSt (n0 b0 b1 b2 bm b3 bs : Nat) (raw : ByteArray) (st : QP) (ns : List ByteArray) (vP : Value) (W : World) : Prop where
  c0 : W.heap[b0]? = some (.cells #[.string st.main] 9 (0, 0))
  c1 : W.heap[b1]? = some (.cells #[.bool st.first] 4 (0, 0))
  c2 : W.heap[b2]? = some (.cells #[vP] 22 (0, 0))
  c3 : W.heap[b3]? = some (.cells #[.map (some bm)] 54 (0, 0))
  cs : W.heap[bs]? = some (.cells #[.string raw] 9 (0, 0))
  oP : W.ownsRow n0 25 2 vP st.ps.length (paramVals st.ps)
  mp : W.ownsMap Tryz.prog 9 (plainElem Tryz.prog 4) bm ns.length (seenD ns)
section
variable {n0 b0 b1 b2 bm b3 bs : Nat} {raw : ByteArray} {st : QP} {ns : List ByteArray} {vP : Value} {W : World}
theorem qst_own (X Y : World) (row : Option Nat) (h : QSt n0 b0 b1 b2 bm b3 bs raw st ns vP X) (hg : X.grownBy Y row) (hr : ∀ r, row = some r → bm < r ∧ ∃ o : Obj, X.heap[r]? = some o ∧ o.isCells = false) : QSt n0 b0 b1 b2 bm b3 bs raw st ns vP Y := by
  have k : ∀ {b : Nat} {c : Array Value} {t : TypeId}, X.heap[b]? = some (.cells c t (0, 0)) → Y.heap[b]? = some (.cells c t (0, 0)) := fun {b c t} hb =>
    (grownBy_keeps_cells hg (fun r e => (hr r e).2) hb rfl).trans hb
  have ko : ∀ {e : TypeId} {size n : Nat} {v : Value} {xs : List Value}, X.ownsRow n0 e size v n xs → Y.ownsRow n0 e size v n xs := fun {e size n v xs} ho => by
    refine ho.kept hg ?_
    cases hv : v.ownBlock with
    | none => exact .inl rfl
    | some g =>
      refine .inr (fun e' => ?_)
      obtain ⟨cells, hc⟩ := own_typed ho g hv
      obtain ⟨_, o, h1, h2⟩ := hr g e'.symm
      rw [hc] at h1
      cases h1
      cases h2
  exact ⟨k h.c0, k h.c1, k h.c2, k h.c3, k h.cs, ko h.oP, h.mp.kept hg (fun e => by have := (hr bm e.symm).1; omega)⟩
theorem qst_below {w' : World} (h : QSt n0 b0 b1 b2 bm b3 bs raw st ns vP W) (hb : Below W.heap.size W w') : QSt n0 b0 b1 b2 bm b3 bs raw st ns vP w' :=
  qst_own W w' none h (grown_of_below hb none) (fun r e => by cases e)
theorem keeps_below {w' : World} (B : Nat) (hb : Below W.heap.size W w') : KeepsFrom B W w' := KeepsFrom.of_grownBy (grown_of_below hb none) (fun r e => by cases e)
theorem qst_set {b : Nat} {c : Array Value} {t : TypeId} {v : Value} {st' : QP} (h : QSt n0 b0 b1 b2 bm b3 bs raw st ns vP W) (hc : W.heap[b]? = some (.cells c t (0, 0))) (ht : t ≠ 25)
    (k0 : (W.setCell ⟨b, 0, none⟩ v).heap[b0]? = some (.cells #[.string st'.main] 9 (0, 0))) (k1 : (W.setCell ⟨b, 0, none⟩ v).heap[b1]? = some (.cells #[.bool st'.first] 4 (0, 0)))
    (k2 : b ≠ b2) (k3 : b ≠ b3) (ks : b ≠ bs) (hp : st'.ps = st.ps) : QSt n0 b0 b1 b2 bm b3 bs raw st' ns vP (W.setCell ⟨b, 0, none⟩ v) :=
  ⟨k0, k1, blk_far h.c2 (Ne.symm k2) _, blk_far h.c3 (Ne.symm k3) _, blk_far h.cs (Ne.symm ks) _, by rw [hp]; exact h.oP.kept (grownBy_setCell' W b _) (.inr (own_not h.oP hc ht)),
    h.mp.kept (grownBy_setCell' W b _) (fun e => by
      injection e with e
      obtain ⟨es, clock, hb, _⟩ := h.mp
      rw [e, hc] at hb
      cases hb)⟩
theorem qst_app (h : QSt n0 b0 b1 b2 bm b3 bs raw st ns vP W) (hb2 : n0 ≤ b2) (hn : n0 ≤ W.heap.size) {o : Obj} {w2 : World} {v' : Value} {nm v : ByteArray} (B : Nat)
    (hown' : w2.ownsRow n0 25 2 v' (st.ps.length + 1) (paramVals st.ps ++ [.string nm, .string v])) (hg : (W.alloc o).grownBy w2 vP.ownBlock) :
    w2.cell? ⟨b2, 0, none⟩ = some vP ∧ w2.frozen? ⟨b2, 0, none⟩ = false ∧ QSt n0 b0 b1 b2 bm b3 bs raw ⟨st.main, st.first, st.ps ++ [⟨nm, v⟩]⟩ ns v' (w2.setCell ⟨b2, 0, none⟩ v') ∧ Below n0 W (w2.setCell ⟨b2, 0, none⟩ v') ∧ KeepsFrom B W (w2.setCell ⟨b2, 0, none⟩ v') := by
  have kb : ∀ {b : Nat} {c : Array Value} {t : TypeId}, W.heap[b]? = some (.cells c t (0, 0)) → some b ≠ vP.ownBlock → w2.heap[b]? = some (.cells c t (0, 0)) := fun {b c t} hb h2 => by
    have hlt := (Array.getElem?_eq_some_iff.1 hb).1
    rw [hg.block b (by simp; omega) h2]
    exact (Lib.alloc_old W _ b hlt).trans hb
  have k0 := kb h.c0 (Ne.symm (own_not h.oP h.c0 (by decide)))
  have k1 := kb h.c1 (Ne.symm (own_not h.oP h.c1 (by decide)))
  have k2 := kb h.c2 (Ne.symm (own_not h.oP h.c2 (by decide)))
  have k3 := kb h.c3 (Ne.symm (own_not h.oP h.c3 (by decide)))
  have ks := kb h.cs (Ne.symm (own_not h.oP h.cs (by decide)))
  have rowcells : ∀ j o', vP.ownBlock = some j → (W.alloc o).heap[j]? = some o' → o'.isCells = true := fun j o' hj ho => by
    obtain ⟨cells, hc⟩ := own_typed (h.oP.alloc o) j hj
    rw [hc] at ho
    cases ho
    rfl
  have hm : w2.ownsMap Tryz.prog 9 (plainElem Tryz.prog 4) bm ns.length (seenD ns) := by
    refine (h.mp.alloc o).kept hg (fun e => ?_)
    obtain ⟨es, clock, hb, _⟩ := h.mp.alloc o
    have := rowcells bm _ e.symm hb
    cases this
  refine ⟨by simp [World.cell?, k2], by simp [World.frozen?, k2], ⟨blk_far k0 (ty_ne k0 k2 (by decide)) _, blk_far k1 (ty_ne k1 k2 (by decide)) _, ?_, blk_far k3 (ty_ne k3 k2 (by decide)) _, blk_far ks (ty_ne ks k2 (by decide)) _, ?_, ?_⟩, ?_, ?_⟩
  · have := blk_set k2 0 v'
    simpa using this
  · rw [paramVals_snoc, List.length_append]
    exact hown'.kept (grownBy_setCell' w2 b2 _) (.inr (own_not hown' k2 (by decide)))
  · exact hm.kept (grownBy_setCell' w2 b2 _) (fun e => by
      injection e with e
      obtain ⟨es, clock, hb, _⟩ := hm
      rw [e, k2] at hb
      cases hb)
  · refine Below.setCell ?_ (p := ⟨b2, 0, none⟩) hb2 v'
    refine (((Below.refl n0 W).alloc hn o).grown hg (by simp; omega) (fun j ej => own_base (h.oP.alloc o) j ej))
  · refine (((KeepsOthers.alloc W o).trans (KeepsOthers.of_grownBy hg rowcells)).trans (KeepsOthers.setCell _ _ _)).from B
theorem qst_map (h : QSt n0 b0 b1 b2 bm b3 bs raw st ns vP W) (hbm : n0 ≤ bm) (hn : n0 ≤ W.heap.size) {w2 : World} {nm : ByteArray} (B : Nat) (hB : bm < B)
    (hm : w2.ownsMap Tryz.prog 9 (plainElem Tryz.prog 4) bm (ns.length + 1) ((seenD ns).put (.string nm.data.toList) (.lit (.bool true)))) (hg : W.grownBy w2 (some bm)) :
    QSt n0 b0 b1 b2 bm b3 bs raw st (ns ++ [nm]) vP w2 ∧ Below n0 W w2 ∧ KeepsFrom B W w2 := by
  have kb : ∀ {b : Nat} {c : Array Value} {t : TypeId}, W.heap[b]? = some (.cells c t (0, 0)) → w2.heap[b]? = some (.cells c t (0, 0)) := fun {b c t} hb =>
    (hg.block b (Array.getElem?_eq_some_iff.1 hb).1 (fun e => by
      injection e with e
      obtain ⟨es, clock, h2, _⟩ := h.mp
      rw [← e, hb] at h2
      cases h2)).trans hb
  refine ⟨⟨kb h.c0, kb h.c1, kb h.c2, kb h.c3, kb h.cs, ?_, ?_⟩, (Below.refl n0 W).grown hg hn (fun k e => by injection e with e; omega), KeepsFrom.of_grownBy hg (fun j e => by injection e with e; omega)⟩
  · refine own_move h.oP (fun g hg2 => ?_)
    obtain ⟨cells, hcc⟩ := own_typed h.oP g hg2
    exact (kb hcc).trans hcc.symm
  · rw [seenD_snoc, List.length_append]
    exact hm
theorem qst_first (h : QSt n0 b0 b1 b2 bm b3 bs raw st ns vP W) (hb0 : n0 ≤ b0) (hb1 : n0 ≤ b1) (hbs : b0 ≠ bs) (m : ByteArray) (B : Nat) :
    QSt n0 b0 b1 b2 bm b3 bs raw ⟨m, false, st.ps⟩ ns vP ((W.setCell ⟨b0, 0, none⟩ (.string m)).setCell ⟨b1, 0, none⟩ (.bool false)) ∧ Below n0 W ((W.setCell ⟨b0, 0, none⟩ (.string m)).setCell ⟨b1, 0, none⟩ (.bool false)) ∧
      KeepsFrom B W ((W.setCell ⟨b0, 0, none⟩ (.string m)).setCell ⟨b1, 0, none⟩ (.bool false)) := by
  have n01 : b0 ≠ b1 := ty_ne h.c0 h.c1 (by decide)
  have s0 : (W.setCell ⟨b0, 0, none⟩ (.string m)).heap[b0]? = some (.cells #[.string m] 9 (0, 0)) := by
    have := blk_set h.c0 0 (.string m)
    simpa using this
  have h1 : QSt n0 b0 b1 b2 bm b3 bs raw ⟨m, st.first, st.ps⟩ ns vP (W.setCell ⟨b0, 0, none⟩ (.string m)) :=
    qst_set h h.c0 (by decide) s0 (blk_far h.c1 (Ne.symm n01) _) (ty_ne h.c0 h.c2 (by decide)) (ty_ne h.c0 h.c3 (by decide)) hbs rfl
  have s1 : ((W.setCell ⟨b0, 0, none⟩ (.string m)).setCell ⟨b1, 0, none⟩ (.bool false)).heap[b1]? = some (.cells #[.bool false] 4 (0, 0)) := by
    have := blk_set h1.c1 0 (.bool false)
    simpa using this
  refine ⟨qst_set h1 h1.c1 (by decide) (blk_far h1.c0 n01 _) s1 (ty_ne h1.c1 h1.c2 (by decide)) (ty_ne h1.c1 h1.c3 (by decide)) (ty_ne h1.c1 h1.cs (by decide)) rfl,
    ((Below.refl n0 W).setCell (p := ⟨b0, 0, none⟩) hb0 _).setCell (p := ⟨b1, 0, none⟩) hb1 _, ((KeepsOthers.setCell _ _ _).trans (KeepsOthers.setCell _ _ _)).from B⟩
set_option maxRecDepth 100000 in
theorem qst_look (h : QSt n0 b0 b1 b2 bm b3 bs raw st ns vP W) (nm : ByteArray) (hs : nm.size ≤ maxLen) :
    (Instr.lookup 54 (.map (some bm)) (.string nm) false).run Tryz.prog W = .ok (.bool (inB nm ns)) W := by
  obtain ⟨v, ps, hrun, hv⟩ := h.mp.lookup (t := 54) K9 Tryz.underlying54 (Tryz.zeroValue4 W) (plainElem_bool Tryz.underlying4 false) (WideMaps.keyOf_string_mk Tryz.underlying9 hs)
  rw [seenD_at] at hv
  have : v = .bool (inB nm ns) := by
    unfold plainElem at hv
    rw [Tryz.underlying4] at hv
    cases v <;> simp at hv
    rw [hv.1]
  rw [hrun, this]
theorem qst_result (h : QSt n0 b0 b1 b2 bm b3 bs raw st ns vP W) : Kd.R k25 25 W n0 (fun _ => True) vP st.ps := by
  refine ⟨fun _ _ => trivial, paramVals st.ps, h.oP, paramVals_length _, fun j p hj => ?_⟩
  have e : ((paramVals st.ps).drop (j * 2)).take 2 = [.string p.f0, .string p.f1] := by
    have : ∀ (l : List S25) (j : Nat), l[j]? = some p → ((paramVals l).drop (j * 2)).take 2 = [.string p.f0, .string p.f1] := by
      intro l
      induction l with
      | nil => intro j h; simp at h
      | cons x l ih =>
        intro j hj
        match j, hj with
        | 0, hj =>
          obtain rfl : x = p := by simpa using hj
          rfl
        | j + 1, hj =>
          have := ih j (by simpa using hj)
          have e1 : paramVals (x :: l) = .string x.f0 :: .string x.f1 :: paramVals l := rfl
          rw [e1, show (j + 1) * 2 = j * 2 + 1 + 1 by omega]
          exact this
    exact this st.ps j hj
  rw [show k25.sz = 2 from rfl, e]
  exact k25_mkM _ _ _ p
end
def w0Q (w : World) (a0 : ByteArray) : World := (((((w.alloc (Obj.cells #[Value.string ⟨#[]⟩] 9)).alloc (Obj.cells #[Value.bool true] 4)).alloc (Obj.cells #[Value.slice none 0 0] 22)).alloc (Obj.map #[] 0)).alloc (Obj.cells #[Value.map (some (w.heap.size + 1 + 1 + 1))] 54)).alloc (Obj.cells #[Value.string a0] 9)
theorem w0Q_size (w : World) (a0 : ByteArray) : (w0Q w a0).heap.size = w.heap.size + 6 := by unfold w0Q; simp
theorem w0Q_below (w : World) (a0 : ByteArray) : Below w.heap.size w (w0Q w a0) := by
  unfold w0Q
  exact ((((((Below.refl _ w).alloc (Nat.le_refl _) _).alloc (by simp) _).alloc (by simp <;> omega) _).alloc (by simp <;> omega) _).alloc (by simp <;> omega) _).alloc (by simp <;> omega) _
theorem qst_start (w : World) (a0 : ByteArray) :
    QSt w.heap.size w.heap.size (w.heap.size + 1) (w.heap.size + 1 + 1) (w.heap.size + 1 + 1 + 1) (w.heap.size + 1 + 1 + 1 + 1) (w.heap.size + 1 + 1 + 1 + 1 + 1) a0 ⟨⟨#[]⟩, true, []⟩ [] (.slice none 0 0) (w0Q w a0) := by
  unfold w0Q
  refine ⟨?_, ?_, ?_, ?_, ?_, own_nil _ _ _ _, ?_⟩
  · exact alloc_old' _ _ _ _ (alloc_old' _ _ _ _ (alloc_old' _ _ _ _ (alloc_old' _ _ _ _ (alloc_old' _ _ _ _ (alloc_at _ _ _ rfl)))))
  · exact alloc_old' _ _ _ _ (alloc_old' _ _ _ _ (alloc_old' _ _ _ _ (alloc_old' _ _ _ _ (alloc_at _ _ _ (by simp)))))
  · exact alloc_old' _ _ _ _ (alloc_old' _ _ _ _ (alloc_old' _ _ _ _ (alloc_at _ _ _ (by simp))))
  · exact alloc_old' _ _ _ _ (alloc_at _ _ _ (by simp))
  · exact alloc_at _ _ _ (by simp)
  · have := World.ownsMap_made (H := Unit) (((w.alloc (Obj.cells #[Value.string ⟨#[]⟩] 9)).alloc (Obj.cells #[Value.bool true] 4)).alloc (Obj.cells #[Value.slice none 0 0] 22)) Tryz.prog 9 (plainElem Tryz.prog 4)
    simp only [World.size_alloc] at this
    exact (this.alloc _).alloc _
end Go.Proofs.YtieompfmhnpnaaaGreat.H
namespace Go.Proofs.YtieompfmhnpnaaaGreat.H
open Go.RowKit Go.Proofs.YtieompfmhnpnaaaGreatW.PrintWords Go.Proofs.YtieompfmhnpnaaaGreatW.PrintLast Go.Proofs.YtieompfmhnpnaaaGreatW.PrintMore
set_option linter.unusedVariables false
set_option linter.unusedSimpArgs false
attribute [local go_sem] Oper.semAt_some
attribute [local go_sem] wide_fn wide_depth wide_fn_r wide_depth_r
def header_Params.f (a0 : ByteArray) : Option (ByteArray × List S25) := if a0.size ≤ 8388608 then some (paramsS a0) else none
def InvQ (n0 b0 b1 b2 bm b3 bs : Nat) (raw : ByteArray) (w : World) (pre : List Nat) (W : World) : Prop :=
  (∃ vP, QSt n0 b0 b1 b2 bm b3 bs raw (foldQ ⟨⟨#[]⟩, true, []⟩ (pre.map (pieceNo raw))) (namesOf (foldQ ⟨⟨#[]⟩, true, []⟩ (pre.map (pieceNo raw))).ps) vP W) ∧ Below n0 w W
set_option maxRecDepth 100000 in
set_option maxHeartbeats 4000000 in
theorem header_Params.calls (a0 : ByteArray) (r1 : ByteArray) (r2 : List S25) (w : World) (h : header_Params.f a0 = some (r1, r2)) :
    Calls Tryz.prog 11 #[.string a0] w fun e w' => ∃ v0_ : Value, e = .returned (.tuple #[.string r1, v0_]) ∧ Kd.R k25 25 w' w.heap.size (fun _ => True) v0_ r2 ∧ Below w.heap.size w w' := by
  unfold header_Params.f at h
  split at h
  case isFalse => cases h
  case isTrue hsz =>
  injection h with h
  refine callsIn_wide.1 (callsIn_of_wp_marks (n := 10) Tryz.func11 rfl trivial ?_ rfl)
  simp only [Tryz.ntmps11, List.size_toArray, List.length_cons, List.length_nil, Nat.reduceAdd, Nat.reduceSub, Array.replicate_succ, Array.replicate_zero, List.push_toArray, List.append_toArray, List.nil_append, List.cons_append]
  have hmk : ∀ W : World, (Instr.makeMap 54 none).run Tryz.prog W = .ok (.map (some W.heap.size)) (W.alloc (.map #[] 0)) := fun W => run_makeMap 54 W
  gi_wp2_with (gi_at_call 39; refine (pieces_in _ _ _).mono ?_; rintro e w' ⟨rfl, rfl⟩)
  obtain ⟨W0, hW0⟩ : ∃ W0, w0Q w a0 = W0 := ⟨_, rfl⟩
  have hs0 := w0Q_size w a0
  have hB0 := w0Q_below w a0
  have hP0 := qst_start w a0
  rw [hW0] at hs0 hB0 hP0
  unfold w0Q at hW0
  rw [hW0]
  clear hW0 hmk
  have hN : (piecesOf a0).length ≤ 8388610 := Nat.le_trans (piecesAt_length a0 _ _ _ _) (by omega)
  refine wpIn_rangeFunc_ownH rfl (by decide) (gf := 70) (lb := #[.pointer (some ⟨w.heap.size + 1 + 1 + 1 + 1 + 1, 0, none⟩)]) rfl trivial (enters_of Tryz.func70 (by kernel_rfl) rfl)
    (encs := fun i : Nat => #[Value.string (pieceNo a0 i)]) (pieces_stops 9 (w.heap.size + 1 + 1 + 1 + 1 + 1) a0 (by omega) W0 (by omega) hP0.cs) (Kp := fun W W' => W'.heap[w.heap.size + 1 + 1 + 1 + 1 + 1]? = W.heap[w.heap.size + 1 + 1 + 1 + 1 + 1]?) (fun {A B C} h k => Eq.trans k h) (fun W l o o' hl ho _ _ => World.putObj_heap_other (by omega)) (Below.refl _ _) (fun _ => rfl)
    (InvQ w.heap.size w.heap.size (w.heap.size + 1) (w.heap.size + 1 + 1) (w.heap.size + 1 + 1 + 1) (w.heap.size + 1 + 1 + 1 + 1) (w.heap.size + 1 + 1 + 1 + 1 + 1) a0 w) (fun _ _ _ => False)
    ?ownI (fun _ _ _ _ _ h _ _ => h) ⟨⟨_, hP0⟩, hB0⟩
    (fun x a' W => a' = { tmps := #[Value.string a0, undef, Value.string ⟨#[]⟩, Value.slice none 0 0, Value.pointer (some ⟨w.heap.size, 0, none⟩), Value.pointer (some ⟨w.heap.size + 1, 0, none⟩), Value.pointer (some ⟨w.heap.size + 1 + 1, 0, none⟩), Value.pointer (some ⟨w.heap.size + 1 + 1 + 1 + 1, 0, none⟩), Value.string (pieceNo a0 x), undef, undef, undef, undef, undef, Value.map (some (w.heap.size + 1 + 1 + 1)), Value.string a0, Value.func (Fn.func 70) #[] #[Value.pointer (some ⟨w.heap.size + 1 + 1 + 1 + 1 + 1, 0, none⟩)], Value.string (pieceNo a0 x), undef, undef, undef, undef, undef, undef, undef, undef, undef, undef, undef, undef, undef, undef, undef, undef, undef, undef, undef, undef, undef, undef, undef, undef, undef, undef, undef, undef, undef, undef, undef, undef, undef, undef, undef, undef, undef, undef, undef, undef, undef], defers := [] })
    (fun _ _ _ _ _ _ h _ _ => h) ?assign ?body ?done (fun _ _ _ _ _ _ h _ => h.elim)
  case ownI =>
    refine OwnFrom.and (fun pre X Y row hs hg hr => ?_) (ownFrom_below (Nat.le_refl _) (by omega))
    obtain ⟨vP, h1⟩ := hs
    exact ⟨vP, qst_own X Y row h1 hg (fun r e => ⟨by have := (hr r e).1; omega, (hr r e).2⟩)⟩
  case assign =>
    rintro l pre x W K hI hK
    gi_wp2
    exact hK _ _ (KeepsFrom.refl _ _) rfl hI rfl
  case body =>
    rintro l pre x a' W hl ⟨r, hr⟩ ⟨⟨vP, hP⟩, hB⟩ rfl hlt
    have hlen := foldQ_len ⟨⟨#[]⟩, true, []⟩ (pre.map (pieceNo a0))
    have hsnoc := foldQ_snoc ⟨⟨#[]⟩, true, []⟩ (pre.map (pieceNo a0)) (pieceNo a0 x)
    have hmap : (pre ++ [x]).map (pieceNo a0) = pre.map (pieceNo a0) ++ [pieceNo a0 x] := by simp
    rw [← hmap] at hsnoc
    clear hmap
    rw [List.length_map] at hlen
    generalize foldQ ⟨⟨#[]⟩, true, []⟩ (pre.map (pieceNo a0)) = st at hP hlen hsnoc
    have hps : st.ps.length ≤ 8388610 := by simp at hlen; omega
    have hpc := Nat.le_trans (pieceNo_size a0 x) hsz
    have hn0 := hB.size
    have goes : ∀ W3 vP3, Below w.heap.size W W3 → KeepsFrom W0.heap.size W W3 → QSt w.heap.size w.heap.size (w.heap.size + 1) (w.heap.size + 1 + 1) (w.heap.size + 1 + 1 + 1) (w.heap.size + 1 + 1 + 1 + 1) (w.heap.size + 1 + 1 + 1 + 1 + 1) a0 (stepQ st (pieceNo a0 x)) (namesOf (stepQ st (pieceNo a0 x)).ps) vP3 W3 → ∀ act, ownPostG W0.heap.size (fun W W' => W'.heap[w.heap.size + 1 + 1 + 1 + 1 + 1]? = W.heap[w.heap.size + 1 + 1 + 1 + 1 + 1]?) (InvQ w.heap.size w.heap.size (w.heap.size + 1) (w.heap.size + 1 + 1) (w.heap.size + 1 + 1 + 1) (w.heap.size + 1 + 1 + 1 + 1) (w.heap.size + 1 + 1 + 1 + 1 + 1) a0 w) (fun _ _ _ => False) (pre ++ [x]) W .normal act W3 := by
      intro W3 vP3 h1 h2 h3 act
      refine ⟨h2, h3.cs.trans hP.cs.symm, ⟨vP3, ?_⟩, hB.trans h1⟩
      rw [hsnoc]
      exact h3
    clear hsnoc hlen
    generalize pieceNo a0 x = pc at goes hpc
    obtain ⟨AF, cF, rfl⟩ := own_slice hP.oP
    have cP0 : W.cell? ⟨w.heap.size, 0, none⟩ = some (.string st.main) := cell_of hP.c0 rfl
    have fP0 : W.frozen? ⟨w.heap.size, 0, none⟩ = false := frozen_of hP.c0
    have cP1 : W.cell? ⟨w.heap.size + 1, 0, none⟩ = some (.bool st.first) := cell_of hP.c1 rfl
    have fP1 : W.frozen? ⟨w.heap.size + 1, 0, none⟩ = false := frozen_of hP.c1
    have HP := Aside0.mk hP
    have GO := Aside0.mk goes
    clear goes
    obtain ⟨k1, hk1⟩ := (trim_ev pc (by omega)).rounds
    have HK1 := Aside0.mk hk1
    clear hk1
    by_cases z : st.first = true
    · rw [z] at cP1
      have E : stepQ st pc = ⟨trimS pc, false, st.ps⟩ := by unfold stepQ; rw [if_pos z]
      have HE := Aside0.mk E
      clear E z hP
      gi_wp2_with fail
      refine (CallsIn.inRound l (callsIn_wide.2 (text_Trim.calls k1 _ _ _ HK1.out))).mono ?_
      rintro e w1 ⟨rfl, ⟨nd, rfl⟩⟩
      gi_wp2_with fail
      obtain ⟨q1, q2, q3⟩ := qst_first (qst_below HP.out (pw_below_drewN (Below.refl _ W) nd)) (Nat.le_refl _) (by omega) (by omega) (trimS pc) W0.heap.size
      refine GO.out _ (.slice AF st.ps.length cF) ((pw_below_drewN (Below.refl _ W) nd).trans q2) ((keeps_below _ (pw_below_drewN (Below.refl W.heap.size W) nd)).trans q3) ?_ _
      rw [HE.out]
      exact q1
    · have z' : st.first = false := by simpa using z
      rw [z'] at cP1
      obtain ⟨n0, re, fd, hcut⟩ : ∃ n0 re fd, cutAt pc 61 = (n0, re, fd) := ⟨_, _, _, rfl⟩
      have hsz2 := cutAt_two pc 61
      rw [hcut] at hsz2
      dsimp only at hsz2
      obtain ⟨hs1, hs2⟩ := hsz2
      have hcf : strings_Cut.f pc ⟨#[61]⟩ = some (n0, re, fd) := by
        unfold strings_Cut.f
        rw [if_pos ⟨by omega, rfl⟩]
        exact congrArg some hcut
      have HCF := Aside0.mk hcf
      have ht1 := trim_size n0
      have hlow : text_Lower.f (trimS n0) = some (lowS (trimS n0)) := by unfold text_Lower.f; rw [if_pos (by omega)]
      have HLOW := Aside0.mk hlow
      have E : stepQ st pc = if fd = false ∨ isTokenB (lowS (trimS n0)) = false ∨ inB (lowS (trimS n0)) (namesOf st.ps) = true then st
          else if (valueS (trimS re)).2 = true then ⟨st.main, st.first, st.ps ++ [⟨lowS (trimS n0), (valueS (trimS re)).1⟩]⟩ else st := by
        unfold stepQ pnameS
        rw [if_neg z, hcut]
      have hnm := lowS_size (trimS n0)
      obtain ⟨k2, hk2⟩ := (trim_ev n0 (by omega)).rounds
      generalize lowS (trimS n0) = nm at *
      obtain ⟨k3, hk3⟩ := (isToken_ev nm (by omega)).rounds
      obtain ⟨k4, hk4⟩ := (trim_ev re (by omega)).rounds
      have ht2 := trim_size re
      obtain ⟨k5, hk5⟩ := (value_ev (trimS re) (by omega)).rounds
      obtain ⟨v, ok, hv⟩ : ∃ v ok, valueS (trimS re) = (v, ok) := ⟨_, _, rfl⟩
      rw [hv] at hk5 E
      dsimp only at E
      have HK2 := Aside0.mk hk2
      have HK3 := Aside0.mk hk3
      have HK4 := Aside0.mk hk4
      have HK5 := Aside0.mk hk5
      have hnmx : nm.size ≤ maxLen := by unfold maxLen; omega
      clear hcf hcut hlow hk2 hk3 hk4 hk5 hv z hP
      cases fd with
      | false =>
        rw [if_pos (.inl rfl)] at E
        have HE := Aside0.mk E
        clear E
        gi_wp2_with fail
        refine (CallsIn.inRound l (callsIn_wide.2 (strings_Cut.calls _ _ _ _ _ _ HCF.out))).mono ?_
        rintro e w1 ⟨rfl, ⟨nd, rfl⟩⟩
        gi_wp2_with fail
        refine (CallsIn.inRound l (callsIn_wide.2 (text_Trim.calls k2 _ _ _ HK2.out))).mono ?_
        rintro e w1 ⟨rfl, ⟨nd2, rfl⟩⟩
        gi_wp2_with fail
        refine (CallsIn.inRound l (callsIn_wide.2 (text_Lower.calls _ _ _ HLOW.out))).mono ?_
        rintro e w1 ⟨rfl, hb1⟩
        have hb : Below W.heap.size W w1 := (pw_below_drewN (Below.refl W.heap.size W) _).trans hb1
        have HB := Aside0.mk hb
        clear hb hb1
        gi_wp2_with fail
        refine GO.out _ (.slice AF st.ps.length cF) (HB.out.mono hn0) (keeps_below _ HB.out) ?_ _
        rw [HE.out]
        exact qst_below HP.out HB.out
      | true =>
      cases htk : isTokenB nm with
      | false =>
        rw [htk] at HK3
        rw [if_pos (.inr (.inl htk))] at E
        have HE := Aside0.mk E
        clear E htk
        gi_wp2_with fail
        refine (CallsIn.inRound l (callsIn_wide.2 (strings_Cut.calls _ _ _ _ _ _ HCF.out))).mono ?_
        rintro e w1 ⟨rfl, ⟨nd, rfl⟩⟩
        gi_wp2_with fail
        refine (CallsIn.inRound l (callsIn_wide.2 (text_Trim.calls k2 _ _ _ HK2.out))).mono ?_
        rintro e w1 ⟨rfl, ⟨nd2, rfl⟩⟩
        gi_wp2_with fail
        refine (CallsIn.inRound l (callsIn_wide.2 (text_Lower.calls _ _ _ HLOW.out))).mono ?_
        rintro e w1 ⟨rfl, hb1⟩
        have hb : Below W.heap.size W w1 := (pw_below_drewN (Below.refl W.heap.size W) _).trans hb1
        have HB := Aside0.mk hb
        clear hb hb1
        gi_wp2_with fail
        refine (CallsIn.inRound l (callsIn_wide.2 (header_isToken.calls k3 _ _ _ HK3.out))).mono ?_
        rintro e w2 ⟨rfl, ⟨nd3, rfl⟩⟩
        gi_wp2_with fail
        have hb2 : Below W.heap.size W (w1.drewN nd3) := pw_below_drewN HB.out nd3
        refine GO.out _ (.slice AF st.ps.length cF) (hb2.mono hn0) (keeps_below _ hb2) ?_ _
        rw [HE.out]
        exact qst_below HP.out hb2
      | true =>
      rw [htk] at HK3
      cases hin : inB nm (namesOf st.ps) with
      | true =>
        rw [if_pos (.inr (.inr hin))] at E
        have HE := Aside0.mk E
        have HI := Aside0.mk hin
        clear E hin htk
        gi_wp2_with fail
        refine (CallsIn.inRound l (callsIn_wide.2 (strings_Cut.calls _ _ _ _ _ _ HCF.out))).mono ?_
        rintro e w1 ⟨rfl, ⟨nd, rfl⟩⟩
        gi_wp2_with fail
        refine (CallsIn.inRound l (callsIn_wide.2 (text_Trim.calls k2 _ _ _ HK2.out))).mono ?_
        rintro e w1 ⟨rfl, ⟨nd2, rfl⟩⟩
        gi_wp2_with fail
        refine (CallsIn.inRound l (callsIn_wide.2 (text_Lower.calls _ _ _ HLOW.out))).mono ?_
        rintro e w1 ⟨rfl, hb1⟩
        have hb : Below W.heap.size W w1 := (pw_below_drewN (Below.refl W.heap.size W) _).trans hb1
        have hq1 := qst_below HP.out hb
        have c3' : w1.cell? ⟨w.heap.size + 1 + 1 + 1 + 1, 0, none⟩ = some (.map (some (w.heap.size + 1 + 1 + 1))) := cell_of hq1.c3 rfl
        have HB := Aside0.mk hb
        have HQ1 := Aside0.mk hq1
        clear hb hb1 hq1
        gi_wp2_with fail
        refine (CallsIn.inRound l (callsIn_wide.2 (header_isToken.calls k3 _ _ _ HK3.out))).mono ?_
        rintro e w2 ⟨rfl, ⟨nd3, rfl⟩⟩
        have hb2 : Below W.heap.size W (w1.drewN nd3) := pw_below_drewN HB.out nd3
        have hq2 := qst_below HP.out hb2
        have hlook := qst_look hq2 nm hnmx
        have HB2 := Aside0.mk hb2
        have HQ2 := Aside0.mk hq2
        clear hb2 hq2
        rw [HI.out] at hlook
        gi_wp2_with fail
        refine GO.out _ (.slice AF st.ps.length cF) (HB2.out.mono hn0) (keeps_below _ HB2.out) ?_ _
        rw [HE.out]
        exact HQ2.out
      | false =>
      rw [if_neg (by rintro (h | h | h) <;> first | (cases h; done) | (rw [htk] at h; cases h; done) | (rw [hin] at h; cases h; done))] at E
      have HI := Aside0.mk hin
      clear hin htk
      cases ok with
      | false =>
        rw [if_neg (by decide)] at E
        have HE := Aside0.mk E
        clear E
        gi_wp2_with fail
        refine (CallsIn.inRound l (callsIn_wide.2 (strings_Cut.calls _ _ _ _ _ _ HCF.out))).mono ?_
        rintro e w1 ⟨rfl, ⟨nd, rfl⟩⟩
        gi_wp2_with fail
        refine (CallsIn.inRound l (callsIn_wide.2 (text_Trim.calls k2 _ _ _ HK2.out))).mono ?_
        rintro e w1 ⟨rfl, ⟨nd2, rfl⟩⟩
        gi_wp2_with fail
        refine (CallsIn.inRound l (callsIn_wide.2 (text_Lower.calls _ _ _ HLOW.out))).mono ?_
        rintro e w1 ⟨rfl, hb1⟩
        have hb : Below W.heap.size W w1 := (pw_below_drewN (Below.refl W.heap.size W) _).trans hb1
        have hq1 := qst_below HP.out hb
        have c3' : w1.cell? ⟨w.heap.size + 1 + 1 + 1 + 1, 0, none⟩ = some (.map (some (w.heap.size + 1 + 1 + 1))) := cell_of hq1.c3 rfl
        have HB := Aside0.mk hb
        have HQ1 := Aside0.mk hq1
        clear hb hb1 hq1
        gi_wp2_with fail
        refine (CallsIn.inRound l (callsIn_wide.2 (header_isToken.calls k3 _ _ _ HK3.out))).mono ?_
        rintro e w2 ⟨rfl, ⟨nd3, rfl⟩⟩
        have hb2 : Below W.heap.size W (w1.drewN nd3) := pw_below_drewN HB.out nd3
        have hq2 := qst_below HP.out hb2
        have hlook := qst_look hq2 nm hnmx
        have HB2 := Aside0.mk hb2
        have HQ2 := Aside0.mk hq2
        clear hb2 hq2
        rw [HI.out] at hlook
        gi_wp2_with fail
        refine (CallsIn.inRound l (callsIn_wide.2 (text_Trim.calls k4 _ _ _ HK4.out))).mono ?_
        rintro e w3 ⟨rfl, ⟨nd4, rfl⟩⟩
        gi_wp2_with fail
        refine (CallsIn.inRound l (callsIn_wide.2 (header_paramValue.calls k5 _ _ _ _ HK5.out))).mono ?_
        rintro e w4 ⟨rfl, hb4⟩
        have hb5 : Below W.heap.size W w4 := (pw_below_drewN HB.out (nd3 + nd4)).trans (hb4.mono HB2.out.size)
        have HB5 := Aside0.mk hb5
        clear hb4 hb5
        gi_wp2_with fail
        refine GO.out _ (.slice AF st.ps.length cF) (HB5.out.mono hn0) (keeps_below _ HB5.out) ?_ _
        rw [HE.out]
        exact qst_below HP.out HB5.out
      | true =>
        rw [if_pos rfl] at E
        have HE := Aside0.mk E
        obtain ⟨i0, hi, hz0, hz1, hz2⟩ := info_parts info25
        clear E
        gi_wp2_with fail
        refine (CallsIn.inRound l (callsIn_wide.2 (strings_Cut.calls _ _ _ _ _ _ HCF.out))).mono ?_
        rintro e w1 ⟨rfl, ⟨nd, rfl⟩⟩
        gi_wp2_with fail
        refine (CallsIn.inRound l (callsIn_wide.2 (text_Trim.calls k2 _ _ _ HK2.out))).mono ?_
        rintro e w1 ⟨rfl, ⟨nd2, rfl⟩⟩
        gi_wp2_with fail
        refine (CallsIn.inRound l (callsIn_wide.2 (text_Lower.calls _ _ _ HLOW.out))).mono ?_
        rintro e w1 ⟨rfl, hb1⟩
        have hb : Below W.heap.size W w1 := (pw_below_drewN (Below.refl W.heap.size W) _).trans hb1
        have hq1 := qst_below HP.out hb
        have c3' : w1.cell? ⟨w.heap.size + 1 + 1 + 1 + 1, 0, none⟩ = some (.map (some (w.heap.size + 1 + 1 + 1))) := cell_of hq1.c3 rfl
        have HB := Aside0.mk hb
        have HQ1 := Aside0.mk hq1
        clear hb hb1 hq1
        gi_wp2_with fail
        refine (CallsIn.inRound l (callsIn_wide.2 (header_isToken.calls k3 _ _ _ HK3.out))).mono ?_
        rintro e w2 ⟨rfl, ⟨nd3, rfl⟩⟩
        have hb2 : Below W.heap.size W (w1.drewN nd3) := pw_below_drewN HB.out nd3
        have hq2 := qst_below HP.out hb2
        have hlook := qst_look hq2 nm hnmx
        have HB2 := Aside0.mk hb2
        have HQ2 := Aside0.mk hq2
        clear hb2 hq2
        rw [HI.out] at hlook
        gi_wp2_with fail
        refine (CallsIn.inRound l (callsIn_wide.2 (text_Trim.calls k4 _ _ _ HK4.out))).mono ?_
        rintro e w3 ⟨rfl, ⟨nd4, rfl⟩⟩
        gi_wp2_with fail
        refine (CallsIn.inRound l (callsIn_wide.2 (header_paramValue.calls k5 _ _ _ _ HK5.out))).mono ?_
        rintro e w4 ⟨rfl, hb4⟩
        have hb5 : Below W.heap.size W w4 := (pw_below_drewN HB.out (nd3 + nd4)).trans (hb4.mono HB2.out.size)
        have hq5 := qst_below HP.out hb5
        have cP2 : w4.cell? ⟨w.heap.size + 1 + 1, 0, none⟩ = some (.slice AF st.ps.length cF) := cell_of hq5.c2 rfl
        have hoP := hq5.oP
        have hn4 : w.heap.size ≤ w4.heap.size := Nat.le_trans hn0 hb5.size
        have HB5 := Aside0.mk hb5
        have HQ5 := Aside0.mk hq5
        clear hb4 hb5 hq5
        gi_wp2_with (gi_at_builtin; refine wpListIn_append_own _ rfl _ _ 22 rfl w.heap.size 25 i0 (.agg #[(.string ⟨#[]⟩), (.string ⟨#[]⟩)]) 2 32 Tryz.underlying22 hi hz0 hz1 hz2 rfl (by decide) _ _ _ rfl (hoP.alloc _) ⟨w4.heap.size, 0, none⟩ 1 1 [.string nm, .string v] rfl rfl ?c1 ?c2 ?c3 ?c4 ?c5 ?_)
        case c1 =>
          intro j u hj
          match j, hj with
          | 0, hj => simp at hj; subst hj; exact World.cell?_alloc_new w4 _ _ _
          | 1, hj => simp at hj; subst hj; exact World.cell?_alloc_new w4 _ _ _
        case c2 => intro u hu; simp at hu; rcases hu with rfl | rfl <;> rfl
        case c3 => unfold maxLen; omega
        case c4 => omega
        case c5 => simp; omega
        intro v' w5 hown' hgrow _
        obtain ⟨gv, capv, rfl⟩ := ownsRow_succ hown'
        obtain ⟨k1', k2', k3', k4', k5'⟩ := qst_app HQ5.out (by omega) hn4 W0.heap.size hown' hgrow
        have c37 : (w5.setCell ⟨w.heap.size + 1 + 1, 0, none⟩ (.slice (some ⟨gv, 0, none⟩) (st.ps.length + 1) capv)).cell? ⟨w.heap.size + 1 + 1 + 1 + 1, 0, none⟩ = some (.map (some (w.heap.size + 1 + 1 + 1))) := cell_of k3'.c3 rfl
        have hmp := k3'.mp
        have hn6 : w.heap.size ≤ (w5.setCell ⟨w.heap.size + 1 + 1, 0, none⟩ (.slice (some ⟨gv, 0, none⟩) (st.ps.length + 1) capv)).heap.size := Nat.le_trans hn4 k4'.size
        have HK3' := Aside0.mk k3'
        have HK4' := Aside0.mk k4'
        have HK5' := Aside0.mk k5'
        have hnl : (namesOf st.ps).length = st.ps.length := by simp [namesOf]
        have hnlt : (namesOf st.ps).length < maxLen := by rw [hnl]; unfold maxLen; omega
        clear hnl
        have hkey := WideMaps.keyOf_string_mk Tryz.underlying9 hnmx
        have hval := plainElem_bool (H := Unit) Tryz.underlying4 true
        clear hown' hgrow k3' k4' k5' hoP
        gi_wp2_with (gi_at_mapUpdate; refine wpListIn_mapUpdate_own _ rfl _ _ _ 54 rfl 9 4 K9 Tryz.underlying54 (plainElem Tryz.prog 4) (w.heap.size + 1 + 1 + 1) _ _ rfl hmp hnlt _ _ _ rfl rfl hkey _ [] hval ?_)
        intro w7 hm7 hg7
        obtain ⟨q1, q2, q3⟩ := qst_map HK3'.out (by omega) hn6 (nm := nm) W0.heap.size (by omega) hm7 hg7
        have HQ1' := Aside0.mk q1
        have HQ2' := Aside0.mk q2
        have HQ3' := Aside0.mk q3
        clear hm7 hg7 q1 q2 q3
        gi_wp2_with fail
        refine GO.out _ (.slice (some ⟨gv, 0, none⟩) (st.ps.length + 1) capv) (((HB5.out.mono hn0).trans HK4'.out).trans HQ2'.out) (((keeps_below _ HB5.out).trans HK5'.out).trans HQ3'.out) ?_ _
        rw [HE.out]
        have e : namesOf (st.ps ++ [⟨nm, v⟩]) = namesOf st.ps ++ [nm] := by simp [namesOf]
        dsimp only
        rw [e]
        exact HQ1'.out
  case done =>
    rintro D zs W hD hS ⟨⟨vP, hP⟩, hB⟩ hK
    have hn0 := hB.size
    have hps : paramsS a0 = ((foldQ ⟨⟨#[]⟩, true, []⟩ (zs.map (pieceNo a0))).main, (foldQ ⟨⟨#[]⟩, true, []⟩ (zs.map (pieceNo a0))).ps) := by
      unfold paramsS
      rw [hS]
    rw [h] at hps
    clear h
    generalize foldQ ⟨⟨#[]⟩, true, []⟩ (zs.map (pieceNo a0)) = st at *
    obtain ⟨hr1, hr2⟩ := Prod.mk.inj hps
    have HR1 := Lib.hid hr1
    have HR2 := Lib.hid hr2
    clear hps hr1 hr2
    obtain ⟨AF, cF, rfl⟩ := own_slice hP.oP
    have c0' : W.cell? ⟨w.heap.size, 0, none⟩ = some (.string st.main) := cell_of hP.c0 rfl
    have c2' : W.cell? ⟨w.heap.size + 1 + 1, 0, none⟩ = some (.slice AF st.ps.length cF) := cell_of hP.c2 rfl
    have HP := Aside0.mk hP
    have HB := Aside0.mk hB
    have HK := Aside0.mk hK
    clear hP hB hK
    have hmx : Tryz.prog.follows .mixedOrders = true := by kernel_rfl
    gi_wp2_with fail
    gi_region
    gi_wp2
    have hK2 : W.drew.heap[D]? = some (.deferred (some [])) := HK.out
    refine ⟨by simp, .inl ⟨D, _, rfl, run_takeDeferred hK2, ?_⟩⟩
    have hP2 := qst_own _ _ (some D) (qst_below HP.out (pw_below_drewN (Below.refl _ W) 1)) (grownBy_putObj' W.drew D (.deferred none)) (fun r e => by cases e; exact ⟨by omega, _, hK2, rfl⟩)
    have hbel : Below w.heap.size w (W.drew.putObj D (.deferred none)) := HB.out.drew.trans (belowK_b (w := w) (Nat.le_refl _) _ D _ _ (by omega) hK2 rfl rfl)
    rw [HR1.out, HR2.out]
    exact ⟨_, by simp [results, Tryz.f11, go_sem], _, rfl, qst_result hP2, hbel⟩
end Go.Proofs.YtieompfmhnpnaaaGreat.H
end
section
namespace Go.Proofs.YtieompfmhnpnaaaGreat.H
open Go.RowKit Go.Proofs.YtieompfmhnpnaaaGreatW.PrintWords Go.Proofs.YtieompfmhnpnaaaGreatW.PrintLast Go.Proofs.YtieompfmhnpnaaaGreatW.PrintMore
set_option linter.unusedVariables false
set_option linter.unusedSimpArgs false
theorem printable_l0 (s : ByteArray) (hs : s.size ≤ 1099511627776) : ∀ (n i : Nat), i + n = s.size →
    Ev (fun k => missiveref09_Printable.l0 k s (i : Int)) (((bl s).drop i).all visB)
  | 0, i, hi => by
    have hl := bl_length s
    refine Ev.step (fun k => by simp only [missiveref09_Printable.l0]; rfl) ?_
    refine ev_no (by omega) ?_
    exact ev_done (by rw [List.drop_of_length_le (by omega)]; rfl)
  | n + 1, i, hi => by
    refine Ev.step (fun k => by simp only [missiveref09_Printable.l0]; rfl) ?_
    have hb := bt_byteAt s i (by omega)
    refine ev_yes (by omega) ?_
    refine ev_yes (by omega) ?_
    simp only [hb]
    rw [drop_byteAt s i (by omega), List.all_cons]
    by_cases h1 : (byteAt s i).toNat < 33
    · have hv : visB (byteAt s i) = false := by unfold visB; simp; omega
      rw [hv, Bool.false_and]
      exact ev_yes (by omega) (Ev.now _)
    · refine ev_no (by omega) ?_
      by_cases h2 : (byteAt s i).toNat > 126
      · have hv : visB (byteAt s i) = false := by unfold visB; simp; omega
        rw [hv, Bool.false_and]
        exact ev_yes (by omega) (Ev.now _)
      · have hv : visB (byteAt s i) = true := by unfold visB; simp; omega
        rw [hv, Bool.true_and]
        refine ev_no (by omega) ?_
        rw [wrap_up i (by omega)]
        exact printable_l0 s hs n (i + 1) (by omega)
theorem printable_ev (s : ByteArray) (hs : s.size ≤ 1099511627776) : Ev (fun k => missiveref09_Printable.f k s) ((bl s).all visB) := by
  unfold missiveref09_Printable.f
  have := printable_l0 s hs s.size 0 (by omega)
  simpa using this
theorem has_l1 (s l : ByteArray) (hs : s.size ≤ 1099511627776) (hl : l.size ≤ 1099511627776) (i : Nat) (hi : i < s.size) (r : Bool)
    (hrest : Ev (fun k => missiveref09_has.l0 k s l ((i + 1 : Nat) : Int)) r) : ∀ (n j : Nat), j + n = l.size →
    Ev (fun k => missiveref09_has.l1 k s l (i : Int) (j : Int)) (((bl l).drop j).contains (byteAt s i) || r)
  | 0, j, hj => by
    have hll := bl_length l
    refine Ev.step (fun k => by simp only [missiveref09_has.l1]; rfl) ?_
    refine ev_no (by omega) ?_
    rw [List.drop_of_length_le (by omega), wrap_up i (by omega)]
    simpa using hrest
  | n + 1, j, hj => by
    refine Ev.step (fun k => by simp only [missiveref09_has.l1]; rfl) ?_
    have hb := bt_byteAt s i hi
    have hb2 := bt_byteAt l j (by omega)
    refine ev_yes (by omega) ?_
    refine ev_yes (by omega) ?_
    refine ev_yes (by omega) ?_
    refine ev_yes (by omega) ?_
    simp only [hb, hb2]
    rw [drop_byteAt l j (by omega)]
    by_cases h : byteAt s i = byteAt l j
    · refine ev_yes (by rw [h]) ?_
      rw [h]
      simp
      exact Ev.now _
    · refine ev_no (fun e => h (by rw [← UInt8.toNat_inj]; omega)) ?_
      have e : (byteAt l j :: (bl l).drop (j + 1)).contains (byteAt s i) = ((bl l).drop (j + 1)).contains (byteAt s i) := by
        rw [List.contains_cons, beq_eq_false_iff_ne.2 h, Bool.false_or]
      rw [e, wrap_up j (by omega)]
      exact has_l1 s l hs hl i hi r hrest n (j + 1) (by omega)
theorem has_l0 (s l : ByteArray) (hs : s.size ≤ 1099511627776) (hl : l.size ≤ 1099511627776) : ∀ (n i : Nat), i + n = s.size →
    Ev (fun k => missiveref09_has.l0 k s l (i : Int)) (((bl s).drop i).any fun c => (bl l).contains c)
  | 0, i, hi => by
    have hll := bl_length s
    refine Ev.step (fun k => by simp only [missiveref09_has.l0]; rfl) ?_
    refine ev_no (by omega) ?_
    exact ev_done (by rw [List.drop_of_length_le (by omega)]; rfl)
  | n + 1, i, hi => by
    refine Ev.step (fun k => by simp only [missiveref09_has.l0]; rfl) ?_
    refine ev_yes (by omega) ?_
    rw [drop_byteAt s i (by omega), List.any_cons]
    have := has_l1 s l hs hl i (by omega) _ (has_l0 s l hs hl n (i + 1) (by omega)) l.size 0 (by omega)
    simpa using this
theorem has_ev (s l : ByteArray) (hs : s.size ≤ 1099511627776) (hl : l.size ≤ 1099511627776) : Ev (fun k => missiveref09_has.f k s l) ((bl s).any fun c => (bl l).contains c) := by
  unfold missiveref09_has.f
  have := has_l0 s l hs hl s.size 0 (by omega)
  simpa using this
end Go.Proofs.YtieompfmhnpnaaaGreat.H
end
section
namespace Go.Proofs.YtieompfmhnpnaaaGreat.H
open Go.RowKit Go.Proofs.YtieompfmhnpnaaaGreatW.PrintWords Go.Proofs.YtieompfmhnpnaaaGreatW.PrintLast Go.Proofs.YtieompfmhnpnaaaGreatW.PrintMore
set_option linter.unusedVariables false
set_option linter.unusedSimpArgs false
attribute [local go_sem] Oper.semAt_some
attribute [local go_sem] wide_fn wide_depth wide_fn_r wide_depth_r
def header_Parse.f (a0 : ByteArray) : Option (List S35 × Int) := if a0.size ≤ 8388608 then some ((parseS a0).1, ((parseS a0).2 : Int)) else none
def InvP (n0 b0 b1 b2 b3 b4 bs : Nat) (raw : ByteArray) (w : World) (pre : List Nat) (W : World) : Prop :=
  (∃ st vF vV, goP ⟨[], [], 0⟩ (pre.map (lineNo raw)) = some st ∧ PSt n0 b0 b1 b2 b3 b4 bs raw st vF vV W) ∧ Below n0 w W
def InvX (n0 b0 b1 b2 b3 b4 bs : Nat) (raw : ByteArray) (w : World) (c : Code) (pre : List Nat) (W : World) : Prop :=
  (c = .exit 0 ∧ ∃ pre0 x st vF vV, pre = pre0 ++ [x] ∧ goP ⟨[], [], 0⟩ (pre0.map (lineNo raw)) = some st ∧ (stepP st (lineNo raw x)).2 = false ∧ PSt n0 b0 b1 b2 b3 b4 bs raw (stepP st (lineNo raw x)).1 vF vV W) ∧ Below n0 w W
set_option maxRecDepth 100000 in
set_option maxHeartbeats 4000000 in
theorem header_Parse.calls (a0 : ByteArray) (r1 : List (S35)) (r2 : Int) (w : World) (h : header_Parse.f a0 = some (r1, r2)) :
    Calls Tryz.prog 22 #[.string a0] w fun e w' => ∃ v0_ : Value, e = .returned (.tuple #[v0_, .int .i64 r2]) ∧ Kd.R k35 35 w' w.heap.size (fun _ => True) v0_ r1 ∧ Below w.heap.size w w' := by
  unfold header_Parse.f at h
  split at h
  case isFalse => cases h
  case isTrue hsz =>
  injection h with h
  injection h with h1 h2
  subst h1 h2
  refine callsIn_wide.1 (callsIn_of_wp_marks (n := 10) Tryz.func22 rfl trivial ?_ rfl)
  simp only [Tryz.ntmps22, List.size_toArray, List.length_cons, List.length_nil, Nat.reduceAdd, Nat.reduceSub, Array.replicate_succ, Array.replicate_zero, List.push_toArray, List.append_toArray, List.nil_append, List.cons_append]
  gi_wp2_with (gi_at_call 60; refine (lines_in _ _ _).mono ?_; rintro e w' ⟨rfl, rfl⟩)
  obtain ⟨W0, hW0⟩ : ∃ W0, w0P w a0 = W0 := ⟨_, rfl⟩
  have hs0 := w0P_size w a0
  have hB0 := w0P_below w a0
  have hP0 := pst_start w a0
  rw [hW0] at hs0 hB0 hP0
  unfold w0P FIN ADD at hW0
  rw [hW0]
  clear hW0
  have hM : ∀ pre : List Nat, ∀ x ∈ pre.map (lineNo a0), x.con.size ≤ 8388608 := fun pre x hx => by
    obtain ⟨i, _, rfl⟩ := List.mem_map.1 hx
    exact Nat.le_trans (lineNo_con a0 i) hsz
  have hN : (linesOf a0).length ≤ 8388609 := Nat.le_trans (linesAt_length a0 _ _) (by omega)
  refine wpIn_rangeFunc_ownH rfl (by decide) (gf := 86) (lb := #[.pointer (some ⟨w.heap.size + 1 + 1 + 1 + 1 + 1, 0, none⟩)]) rfl trivial (enters_of Tryz.func86 (by kernel_rfl) rfl)
    (encs := fun i : Nat => encLine (lineNo a0 i)) (lines_stops 9 (w.heap.size + 1 + 1 + 1 + 1 + 1) a0 (by omega) W0 (by omega) hP0.cs) (Kp := fun W W' => W'.heap[w.heap.size + 1 + 1 + 1 + 1 + 1]? = W.heap[w.heap.size + 1 + 1 + 1 + 1 + 1]?) (fun {A B C} h k => Eq.trans k h) (fun W l o o' hl ho _ _ => World.putObj_heap_other (by omega)) (Below.refl _ _) (fun _ => rfl)
    (InvP w.heap.size w.heap.size (w.heap.size + 1) (w.heap.size + 1 + 1) (w.heap.size + 1 + 1 + 1) (w.heap.size + 1 + 1 + 1 + 1) (w.heap.size + 1 + 1 + 1 + 1 + 1) a0 w) (InvX w.heap.size w.heap.size (w.heap.size + 1) (w.heap.size + 1 + 1) (w.heap.size + 1 + 1 + 1) (w.heap.size + 1 + 1 + 1 + 1) (w.heap.size + 1 + 1 + 1 + 1 + 1) a0 w)
    ?ownI ?ownX ⟨⟨_, _, _, rfl, hP0⟩, hB0⟩
    (fun x a' W => ∃ Bx, W.heap[Bx]? = some (.cells #[.string (lineNo a0 x).con, .int .i64 ((lineNo a0 x).fr : Int), .int .i64 ((lineNo a0 x).un : Int)] 81 (0, 0)) ∧ a' = { tmps := #[Value.string a0, undef, Value.slice none 0 0, Value.int IntKind.i64 0, Value.pointer (some ⟨w.heap.size, 0, none⟩), Value.pointer (some ⟨w.heap.size + 1, 0, none⟩), Value.pointer (some ⟨w.heap.size + 1 + 1, 0, none⟩), Value.pointer (some ⟨w.heap.size + 1 + 1 + 1, 0, none⟩), Value.pointer (some ⟨w.heap.size + 1 + 1 + 1 + 1, 0, none⟩), Value.pointer (some ⟨Bx, 0, none⟩), undef, undef, undef, Value.func (Fn.func 57) #[] #[Value.pointer (some ⟨w.heap.size, 0, none⟩), Value.pointer (some ⟨w.heap.size + 1, 0, none⟩)], Value.func (Fn.func 59) #[] #[Value.pointer (some ⟨w.heap.size + 1, 0, none⟩)], Value.string a0, Value.func (Fn.func 86) #[] #[Value.pointer (some ⟨w.heap.size + 1 + 1 + 1 + 1 + 1, 0, none⟩)], Value.agg #[.string (lineNo a0 x).con, .int .i64 ((lineNo a0 x).fr : Int), .int .i64 ((lineNo a0 x).un : Int)], undef, undef, undef, undef, undef, undef, undef, undef, undef, undef, undef, undef, undef, undef, undef, undef, undef, undef, undef, undef, undef, undef, undef, undef, undef, undef, undef, undef, undef, undef, undef, undef, undef, undef, undef, undef, undef, undef, undef, undef, undef, undef, undef, undef, undef, undef, undef, undef, undef, undef, undef, undef, undef, undef, undef], defers := [] })
    ?ownA ?assign ?body ?done ?stop
  case ownI =>
    refine OwnFrom.and (fun pre X Y row hs hg hr => ?_) (ownFrom_below (Nat.le_refl _) (by omega))
    obtain ⟨st, vF, vV, h1, h2⟩ := hs
    exact ⟨st, vF, vV, h1, pst_own X Y row h2 hg (fun r e => (hr r e).2)⟩
  case ownX =>
    intro c
    refine OwnFrom.and (fun pre X Y row hs hg hr => ?_) (ownFrom_below (Nat.le_refl _) (by omega))
    obtain ⟨hc, pre0, x, st, vF, vV, e, h1, h2, h3⟩ := hs
    exact ⟨hc, pre0, x, st, vF, vV, e, h1, h2, pst_own X Y row h3 hg (fun r e => (hr r e).2)⟩
  case ownA =>
    rintro x a' _ X Y row ⟨Bx, h1, h2⟩ hg hr
    exact ⟨Bx, (grownBy_keeps_cells hg (fun r e => (hr r e).2) h1 rfl).trans h1, h2⟩
  case assign =>
    rintro l pre x W K ⟨⟨st, vF, vV, hgo, hP⟩, hB⟩ hK
    unfold encLine
    gi_wp2
    have hlt5 := (Array.getElem?_eq_some_iff.1 hP.cs).1
    exact hK _ _ ((KeepsOthers.alloc _ _).from _) (Lib.alloc_old W _ _ hlt5) ⟨⟨st, vF, vV, hgo, pst_own W _ none hP (World.grownBy_alloc W _ none) (fun r e => by cases e)⟩, hB.alloc hB.size _⟩ ⟨W.heap.size, World.alloc_heap_new _ _, rfl⟩
  case body =>
    rintro l pre x a' W hl ⟨r, hr⟩ ⟨⟨st, vF, vV, hgo, hP⟩, hB⟩ ⟨Bx, hX, rfl⟩ hlt
    obtain ⟨bV, bM, bF⟩ := goP_bd (hM pre) (k := 0) (st := ⟨[], [], 0⟩) ⟨Nat.le_refl _, (fun v hv => by cases hv), Nat.zero_le _⟩ hgo
    rw [List.length_map] at bV
    have hcon : (lineNo a0 x).con.size ≤ 8388608 := Nat.le_trans (lineNo_con a0 x) hsz
    have hsnoc := goP_snoc ⟨[], [], 0⟩ (pre.map (lineNo a0)) (lineNo a0 x)
    rw [hgo] at hsnoc
    have hmap : (pre ++ [x]).map (lineNo a0) = pre.map (lineNo a0) ++ [lineNo a0 x] := by simp
    have hn0 := hB.size
    have goes : ∀ W3 vF3 vV3 st3, Stp w.heap.size W W3 → stepP st (lineNo a0 x) = (st3, true) → PSt w.heap.size w.heap.size (w.heap.size + 1) (w.heap.size + 1 + 1) (w.heap.size + 1 + 1 + 1) (w.heap.size + 1 + 1 + 1 + 1) (w.heap.size + 1 + 1 + 1 + 1 + 1) a0 st3 vF3 vV3 W3 → ∀ act, ownPostG W0.heap.size (fun W W' => W'.heap[w.heap.size + 1 + 1 + 1 + 1 + 1]? = W.heap[w.heap.size + 1 + 1 + 1 + 1 + 1]?) (InvP w.heap.size w.heap.size (w.heap.size + 1) (w.heap.size + 1 + 1) (w.heap.size + 1 + 1 + 1) (w.heap.size + 1 + 1 + 1 + 1) (w.heap.size + 1 + 1 + 1 + 1 + 1) a0 w) (InvX w.heap.size w.heap.size (w.heap.size + 1) (w.heap.size + 1 + 1) (w.heap.size + 1 + 1 + 1) (w.heap.size + 1 + 1 + 1 + 1) (w.heap.size + 1 + 1 + 1 + 1 + 1) a0 w) (pre ++ [x]) W .normal act W3 := by
      intro W3 vF3 vV3 st3 h1 h2 h3 act
      refine ⟨h1.keeps _, h3.cs.trans hP.cs.symm, ⟨st3, vF3, vV3, ?_, h3⟩, hB.trans (h1.below hn0)⟩
      rw [hmap, hsnoc]
      show (if (stepP st (lineNo a0 x)).2 = true then some (stepP st (lineNo a0 x)).1 else none) = some st3
      rw [h2]
      rfl
    have stops : ∀ W3 vF3 vV3 st3, Stp w.heap.size W W3 → stepP st (lineNo a0 x) = (st3, false) → PSt w.heap.size w.heap.size (w.heap.size + 1) (w.heap.size + 1 + 1) (w.heap.size + 1 + 1 + 1) (w.heap.size + 1 + 1 + 1 + 1) (w.heap.size + 1 + 1 + 1 + 1 + 1) a0 st3 vF3 vV3 W3 → ∀ act, ownPostG W0.heap.size (fun W W' => W'.heap[w.heap.size + 1 + 1 + 1 + 1 + 1]? = W.heap[w.heap.size + 1 + 1 + 1 + 1 + 1]?) (InvP w.heap.size w.heap.size (w.heap.size + 1) (w.heap.size + 1 + 1) (w.heap.size + 1 + 1 + 1) (w.heap.size + 1 + 1 + 1 + 1) (w.heap.size + 1 + 1 + 1 + 1 + 1) a0 w) (InvX w.heap.size w.heap.size (w.heap.size + 1) (w.heap.size + 1 + 1) (w.heap.size + 1 + 1 + 1) (w.heap.size + 1 + 1 + 1 + 1) (w.heap.size + 1 + 1 + 1 + 1 + 1) a0 w) (pre ++ [x]) W (.exit 0) act W3 := by
      intro W3 vF3 vV3 st3 h1 h2 h3 act
      refine ⟨h1.keeps _, ⟨rfl, pre, x, st, vF3, vV3, rfl, hgo, by rw [h2], by rw [h2]; exact h3⟩, hB.trans (h1.below hn0)⟩
    obtain ⟨con, fr, un, hline⟩ : ∃ con fr un, lineNo a0 x = ⟨con, fr, un⟩ := ⟨_, _, _, rfl⟩
    rw [hline] at hX hcon goes stops
    simp only [hline]
    dsimp only at hX hcon
    clear hsnoc hmap hline hgo
    obtain ⟨AF, cF, rfl⟩ := own_slice hP.oF
    have cX0 : W.cell? ⟨Bx, 0, none⟩ = some (.string con) := by simp [World.cell?, hX]
    have cX2 : W.cell? ⟨Bx, 2, none⟩ = some (.int .i64 (un : Int)) := by simp [World.cell?, hX]
    have cP0 : W.cell? ⟨w.heap.size, 0, none⟩ = some (.slice AF st.fs.length cF) := by simp [World.cell?, hP.c0]
    have cP2 : W.cell? ⟨w.heap.size + 1 + 1, 0, none⟩ = some (.func (.func 57) #[] #[.pointer (some ⟨w.heap.size, 0, none⟩), .pointer (some ⟨w.heap.size + 1, 0, none⟩)]) := by simp [World.cell?, hP.c2, FIN]
    have cP3 : W.cell? ⟨w.heap.size + 1 + 1 + 1, 0, none⟩ = some (.func (.func 59) #[] #[.pointer (some ⟨w.heap.size + 1, 0, none⟩)]) := by simp [World.cell?, hP.c3, ADD]
    have fP4 : W.frozen? ⟨w.heap.size + 1 + 1 + 1 + 1, 0, none⟩ = false := by simp [World.frozen?, hP.c4]
    have cP4 : W.cell? ⟨w.heap.size + 1 + 1 + 1 + 1, 0, none⟩ = some (.int .i64 (st.en : Int)) := by simp [World.cell?, hP.c4]
    have HP := Aside0.mk hP
    have HX := Aside0.mk hX
    have GO := Aside0.mk goes
    have ST := Aside0.mk stops
    clear hP hX goes stops
    by_cases z : con.size = 0
    · have hve : con.toList.isEmpty = true := by rw [toList_bl, List.isEmpty_iff_length_eq_zero, bl_length]; exact z
      have E : stepP st ⟨con, fr, un⟩ = (⟨st.fs, st.vs, un⟩, false) := by unfold stepP; rw [if_pos z]
      have HE := Aside0.mk E
      clear E z
      gi_wp2
      obtain ⟨h1, h2⟩ := en_ps HP.out (by omega) un
      exact ST.out _ _ _ _ h2 HE.out h1 _
    · have hvf : con.toList.isEmpty = false := by
        rw [toList_bl]
        cases h : bl con with
        | nil => exfalso; apply z; rw [← bl_length, h]; rfl
        | cons _ _ => rfl
      have k0 : ∀ hh, con[0]'hh = byteAt con 0 := fun hh => byteAt_get con 0 hh
      have hp : 0 < con.size := by omega
      have hpI : (0 : Int) < (con.size : Int) := by omega
      have b256 : (byteAt con 0).toNat < 256 := (byteAt con 0).toNat_lt
      have HBL := Aside0.mk (blank_at (byteAt con 0))
      by_cases hq : blankB (byteAt con 0) = true ∧ 0 < st.fs.length
      · have E : stepP st ⟨con, fr, un⟩ = (⟨st.fs, addV st.vs con, un⟩, true) := by unfold stepP; rw [if_neg z, if_pos hq]
        obtain ⟨hq1, hq2⟩ := hq
        have HE := Aside0.mk E
        have HQ := Aside0.mk hq1
        have hq3 : (0 : Int) < (st.fs.length : Int) := by omega
        clear E hq1 z
        gi_wp2_with fail
        refine (CallsIn.inRound l (callsIn_wide.2 (header_blank.calls _ _ _ HBL.out))).mono ?_
        rintro e w1 ⟨rfl, ⟨nd, rfl⟩⟩
        rw [HQ.out]
        gi_wp2_with fail
        refine (CallsIn.inRound l (callsIn_wide.2 (add_ps (pst_drewN HP.out nd) (by omega) con (by omega) (by omega) hn0))).mono ?_
        rintro e W1 ⟨rfl, ⟨vV1, hP1⟩, hS1⟩
        have hS2 := (((Stp.refl w.heap.size W).drewN nd).trans hS1)
        have hX1 := hS2.lv HX.out
        have cX2' : W1.cell? ⟨Bx, 2, none⟩ = some (.int .i64 (un : Int)) := by simp [World.cell?, hX1]
        have fP4' : W1.frozen? ⟨w.heap.size + 1 + 1 + 1 + 1, 0, none⟩ = false := by simp [World.frozen?, hP1.c4]
        have cP4' : W1.cell? ⟨w.heap.size + 1 + 1 + 1 + 1, 0, none⟩ = some (.int .i64 (st.en : Int)) := by simp [World.cell?, hP1.c4]
        have HP1 := Aside0.mk hP1
        have HS2 := Aside0.mk hS2
        clear hP1 hS1 hS2 hX1
        gi_wp2_with fail
        obtain ⟨h1, h2⟩ := en_ps HP1.out (by omega) un
        exact GO.out _ _ _ _ (HS2.out.trans h2) HE.out h1 _
      · obtain ⟨nm, re, fd, hcut⟩ : ∃ nm re fd, cutAt con 58 = (nm, re, fd) := ⟨_, _, _, rfl⟩
        have hsz2 := cutAt_two con 58
        rw [hcut] at hsz2
        dsimp only at hsz2
        obtain ⟨hs1, hs2⟩ := hsz2
        have hcf : strings_Cut.f con ⟨#[58]⟩ = some (nm, re, fd) := by
          unfold strings_Cut.f
          rw [if_pos ⟨by omega, rfl⟩]
          exact congrArg some hcut
        have HCF := Aside0.mk hcf
        have E : stepP st ⟨con, fr, un⟩ = if fd = false ∨ isNameB nm = false ∨ 400 ≤ st.fs.length then (st, false) else (⟨doneF st.fs st.vs ++ [⟨nm, ⟨#[]⟩⟩], addV [] re, un⟩, true) := by
          unfold stepP
          rw [if_neg z, if_neg hq, hcut]
        obtain ⟨kn, hkn⟩ := (isName_ev nm (by omega)).rounds
        have HN2 := Aside0.mk hkn
        clear hcf hcut hkn
        have both : (∃ bb, Aside0 (blankB (byteAt con 0) = bb) ∧ bb = false) ∨ (Aside0 (blankB (byteAt con 0) = true) ∧ st.fs.length = 0) := by
          cases hb : blankB (byteAt con 0) with
          | false => exact .inl ⟨false, .mk rfl, rfl⟩
          | true => exact .inr ⟨.mk rfl, by
              rcases Nat.eq_zero_or_pos st.fs.length with h | h
              · exact h
              · exact absurd ⟨hb, h⟩ hq⟩
        clear hq z
        have dI : ∀ (m : Nat), IntKind.i64.wrap (m : Int) = IntKind.i64.wrap (m : Int) := fun _ => rfl
        clear dI
        rcases Bool.eq_false_or_eq_true fd with rfl | rfl
        case inr =>
          rw [if_pos (.inl rfl)] at E
          have HE := Aside0.mk E
          clear E
          rcases both with ⟨bb, HQ, rfl⟩ | ⟨HQ, hq0⟩
          case' inr => rw [hq0] at cP0
          all_goals
            gi_wp2_with fail
            refine (CallsIn.inRound l (callsIn_wide.2 (header_blank.calls _ _ _ HBL.out))).mono ?_
            rintro e w1 ⟨rfl, ⟨nd, rfl⟩⟩
            rw [HQ.out]
            gi_wp2_with fail
            refine (CallsIn.inRound l (callsIn_wide.2 (strings_Cut.calls _ _ _ _ _ _ HCF.out))).mono ?_
            rintro e w1 ⟨rfl, ⟨nd2, rfl⟩⟩
            gi_wp2_with fail
            exact ST.out _ _ _ _ ((Stp.refl w.heap.size W).drewN _) HE.out (pst_drewN HP.out _) _
        case inl =>
        rcases Bool.eq_false_or_eq_true (isNameB nm) with hnm | hnm
        case inr =>
          rw [if_pos (.inr (.inl hnm))] at E
          have HE := Aside0.mk E
          rw [hnm] at HN2
          clear E hnm
          rcases both with ⟨bb, HQ, rfl⟩ | ⟨HQ, hq0⟩
          case' inr => rw [hq0] at cP0
          all_goals
            gi_wp2_with fail
            refine (CallsIn.inRound l (callsIn_wide.2 (header_blank.calls _ _ _ HBL.out))).mono ?_
            rintro e w1 ⟨rfl, ⟨nd, rfl⟩⟩
            rw [HQ.out]
            gi_wp2_with fail
            refine (CallsIn.inRound l (callsIn_wide.2 (strings_Cut.calls _ _ _ _ _ _ HCF.out))).mono ?_
            rintro e w1 ⟨rfl, ⟨nd2, rfl⟩⟩
            gi_wp2_with fail
            refine (CallsIn.inRound l (callsIn_wide.2 (header_isName.calls kn _ _ _ HN2.out))).mono ?_
            rintro e w1 ⟨rfl, ⟨nd3, rfl⟩⟩
            gi_wp2_with fail
            exact ST.out _ _ _ _ ((Stp.refl w.heap.size W).drewN _) HE.out (pst_drewN HP.out _) _
        case inl =>
        rw [hnm] at HN2
        rcases Nat.lt_or_ge st.fs.length 400 with h4 | h4
        case inr =>
          rw [if_pos (.inr (.inr h4))] at E
          have HE := Aside0.mk E
          have h4I : (400 : Int) ≤ (st.fs.length : Int) := by omega
          clear E hnm
          rcases both with ⟨bb, HQ, rfl⟩ | ⟨HQ, hq0⟩
          case' inr => omega
          all_goals
            gi_wp2_with fail
            refine (CallsIn.inRound l (callsIn_wide.2 (header_blank.calls _ _ _ HBL.out))).mono ?_
            rintro e w1 ⟨rfl, ⟨nd, rfl⟩⟩
            rw [HQ.out]
            gi_wp2_with fail
            refine (CallsIn.inRound l (callsIn_wide.2 (strings_Cut.calls _ _ _ _ _ _ HCF.out))).mono ?_
            rintro e w1 ⟨rfl, ⟨nd2, rfl⟩⟩
            gi_wp2_with fail
            refine (CallsIn.inRound l (callsIn_wide.2 (header_isName.calls kn _ _ _ HN2.out))).mono ?_
            rintro e w1 ⟨rfl, ⟨nd3, rfl⟩⟩
            gi_wp2_with fail
            exact ST.out _ _ _ _ ((Stp.refl w.heap.size W).drewN _) HE.out (pst_drewN HP.out _) _
        case inl =>
        have h4N : ¬ 400 ≤ st.fs.length := by omega
        rw [if_neg (by rintro (h | h | h) <;> first | (cases h; done) | (rw [hnm] at h; cases h; done) | omega)] at E
        have HE := Aside0.mk E
        have h4I : ¬ (400 : Int) ≤ (st.fs.length : Int) := by omega
        have h4J : (st.fs.length : Int) < 400 := by omega
        have hjs : (joinS st.vs).size ≤ 140737488355328 := by
          refine Nat.le_trans (joinS_size bM) (Nat.le_trans (Nat.mul_le_mul_right _ (show st.vs.length ≤ 8388609 by omega)) (by decide))
        obtain ⟨i0, hi, hz0, hz1, hz2⟩ := info_parts info35
        clear E hnm
        rcases both with ⟨bb, HQ, rfl⟩ | ⟨HQ, hq0⟩
        case' inr => rw [hq0] at cP0; clear hq0
        all_goals
          gi_wp2_with fail
          refine (CallsIn.inRound l (callsIn_wide.2 (header_blank.calls _ _ _ HBL.out))).mono ?_
          rintro e w1 ⟨rfl, ⟨nd, rfl⟩⟩
          rw [HQ.out]
          gi_wp2_with fail
          refine (CallsIn.inRound l (callsIn_wide.2 (strings_Cut.calls _ _ _ _ _ _ HCF.out))).mono ?_
          rintro e w1 ⟨rfl, ⟨nd2, rfl⟩⟩
          gi_wp2_with fail
          refine (CallsIn.inRound l (callsIn_wide.2 (header_isName.calls kn _ _ _ HN2.out))).mono ?_
          rintro e w1 ⟨rfl, ⟨nd3, rfl⟩⟩
          gi_wp2_with fail
          refine (CallsIn.inRound l (callsIn_wide.2 (fin_ps (pst_drewN HP.out _) (Nat.le_refl _) (by omega) (by omega) (by omega) hjs hn0))).mono ?_
          rintro e W1 ⟨rfl, hP1, hS1⟩
          have hS2 := (((Stp.refl w.heap.size W).drewN _).trans hS1)
          have hX1 := hS2.lv HX.out
          have cX2' : W1.cell? ⟨Bx, 2, none⟩ = some (.int .i64 (un : Int)) := by simp [World.cell?, hX1]
          have cP0' : W1.cell? ⟨w.heap.size, 0, none⟩ = some (.slice AF st.fs.length cF) := by simp [World.cell?, hP1.c0]
          have hn1 : w.heap.size ≤ W1.heap.size := Nat.le_trans hn0 hS2.size
          have HP1 := Aside0.mk hP1
          have HS2 := Aside0.mk hS2
          clear hP1 hS1 hS2 hX1
          have hfl := doneF_length st.fs st.vs
          have hoF := HP1.out.oF
          dsimp only at hoF
          rw [hfl] at hoF
          gi_wp2_with (gi_at_builtin; refine wpListIn_append_own _ rfl _ _ 33 rfl w.heap.size 35 i0 (.agg #[(.string ⟨#[]⟩), (.string ⟨#[]⟩)]) 2 32 Tryz.underlying33 hi hz0 hz1 hz2 rfl (by decide) _ _ _ rfl (hoF.alloc _) ⟨W1.heap.size, 0, none⟩ 1 1 [.string nm, .string ⟨#[]⟩] rfl rfl ?c1 ?c2 ?c3 ?c4 ?c5 ?_)
          case c1 =>
            intro j u hj
            match j, hj with
            | 0, hj => simp at hj; subst hj; exact World.cell?_alloc_new W1 _ _ _
            | 1, hj => simp at hj; subst hj; exact World.cell?_alloc_new W1 _ _ _
          case c2 => intro u hu; simp at hu; rcases hu with rfl | rfl <;> rfl
          case c3 => unfold maxLen; omega
          case c4 => omega
          case c5 => simp; omega
          intro v' w2 hown' hgrow _
          obtain ⟨gv, capv, rfl⟩ := ownsRow_succ hown'
          have hown2 := hown'
          rw [← hfl] at hown2
          obtain ⟨k1, k2, k3, k4⟩ := app_ps HP1.out (Nat.le_refl _) hn1 hown2 hgrow
          rw [hfl] at k3 k4
          have HK3 := Aside0.mk k3
          have HK4 := Aside0.mk (HS2.out.trans k4)
          have cA3 : (w2.setCell ⟨w.heap.size, 0, none⟩ (.slice (some ⟨gv, 0, none⟩) (st.fs.length + 1) capv)).cell? ⟨w.heap.size + 1 + 1 + 1, 0, none⟩ = some (.func (.func 59) #[] #[.pointer (some ⟨w.heap.size + 1, 0, none⟩)]) := cell_of k3.c3 rfl
          have hn2 := HK4.out.size
          have hX3 := HK4.out.lv HX.out
          have cX4 : (w2.setCell ⟨w.heap.size, 0, none⟩ (.slice (some ⟨gv, 0, none⟩) (st.fs.length + 1) capv)).cell? ⟨Bx, 2, none⟩ = some (.int .i64 (un : Int)) := cell_of hX3 rfl
          clear hown' hown2 hgrow k3 k4 hoF hX3
          gi_wp2_with fail
          refine (CallsIn.inRound l (callsIn_wide.2 (add_ps HK3.out (by omega) re (by omega) (Nat.zero_le _) (Nat.le_trans hn0 hn2)))).mono ?_
          rintro e W5 ⟨rfl, ⟨vV5, hP5⟩, hS5⟩
          have hS6 := HK4.out.trans hS5
          have hX6 := hS6.lv HX.out
          have cX6 : W5.cell? ⟨Bx, 2, none⟩ = some (.int .i64 (un : Int)) := cell_of hX6 rfl
          have fP6 : W5.frozen? ⟨w.heap.size + 1 + 1 + 1 + 1, 0, none⟩ = false := frozen_of hP5.c4
          have cP6 : W5.cell? ⟨w.heap.size + 1 + 1 + 1 + 1, 0, none⟩ = some (.int .i64 (st.en : Int)) := cell_of hP5.c4 rfl
          have HP5 := Aside0.mk hP5
          have HS6 := Aside0.mk hS6
          clear hP5 hS5 hS6 hX6
          gi_wp2_with fail
          obtain ⟨h1, h2⟩ := en_ps HP5.out (by omega) un
          exact GO.out _ _ _ _ (HS6.out.trans h2) HE.out h1 _
  case' done =>
    rintro D zs W hD hS ⟨⟨st, vF, vV, hgo, hP⟩, hB⟩ hK
    have hz : zs.length ≤ 8388609 := by rw [← List.length_map (f := lineNo a0), hS]; exact hN
    obtain ⟨bV, bM, bF⟩ := goP_bd (hM zs) (k := 0) (st := ⟨[], [], 0⟩) ⟨Nat.le_refl _, (fun v hv => by cases hv), Nat.zero_le _⟩ hgo
    rw [List.length_map] at bV
    replace bV : st.vs.length ≤ 8388610 := by omega
    have hfo := foldP_of_goP hgo
    rw [hS] at hfo
    clear hgo hS hz
  case' stop =>
    rintro D c pre W hD hS ⟨⟨rfl, pre0, x, st0, vF, vV, rfl, hgo, hx2, hP⟩, hB⟩ hK
    have hz : (pre0 ++ [x]).length ≤ 8388609 := by rw [← List.length_map (f := lineNo a0)]; exact Nat.le_trans hS.length_le hN
    obtain ⟨rest, hrest⟩ := hS
    have hbd := goP_bd (hM pre0) (k := 0) (st := ⟨[], [], 0⟩) ⟨Nat.le_refl _, (fun v hv => by cases hv), Nat.zero_le _⟩ hgo
    have hbd2 := stepP_bd (x := lineNo a0 x) hbd (Nat.le_trans (lineNo_con a0 x) hsz)
    have hfo := foldP_stop (rest := rest) hgo hx2
    rw [List.map_append, List.map_cons, List.map_nil] at hrest
    rw [hrest] at hfo
    generalize (stepP st0 (lineNo a0 x)).1 = st at *
    obtain ⟨bV, bM, bF⟩ := hbd2
    rw [List.length_map] at bV
    rw [List.length_append, List.length_singleton] at hz
    replace bV : st.vs.length ≤ 8388610 := by omega
    clear hgo hx2 hz hrest hbd
  all_goals
    have hn0 := hB.size
    have hjs : (joinS st.vs).size ≤ 140737488355328 := by
      refine Nat.le_trans (joinS_size bM) (Nat.le_trans (Nat.mul_le_mul_right _ bV) (by decide))
    have cP2 : W.cell? ⟨w.heap.size + 1 + 1, 0, none⟩ = some (.func (.func 57) #[] #[.pointer (some ⟨w.heap.size, 0, none⟩), .pointer (some ⟨w.heap.size + 1, 0, none⟩)]) := cell_of hP.c2 rfl
    have HP := Aside0.mk hP
    have HB := Aside0.mk hB
    have HK := Aside0.mk hK
    have HF := Aside0.mk hfo
    clear hP hB hK hfo
    gi_wp2_with fail
    refine (callsIn_wide.2 (fin_ps HP.out (Nat.le_refl _) (by omega) (by omega) (by omega) hjs hn0)).mono ?_
    rintro e W1 ⟨rfl, hP1, hS1⟩
    obtain ⟨AF, cF, rfl⟩ := own_slice hP1.oF
    have c0' : W1.cell? ⟨w.heap.size, 0, none⟩ = some (.slice AF (doneF st.fs st.vs).length cF) := cell_of hP1.c0 rfl
    have c4' : W1.cell? ⟨w.heap.size + 1 + 1 + 1 + 1, 0, none⟩ = some (.int .i64 (st.en : Int)) := cell_of hP1.c4 rfl
    have hK' := (hS1.keeps W0.heap.size).same D _ hD HK.out rfl
    have HP1 := Aside0.mk hP1
    have HS1 := Aside0.mk hS1
    have HK' := Aside0.mk hK'
    clear hP1 hS1 hK'
    gi_wp2_with fail
    have hmx : Tryz.prog.follows .mixedOrders = true := by kernel_rfl
    gi_region
    gi_wp2
    have hK2 : W1.drew.heap[D]? = some (.deferred (some [])) := HK'.out
    refine ⟨by simp, .inl ⟨D, _, rfl, run_takeDeferred hK2, ?_⟩⟩
    have hps : parseS a0 = (doneF st.fs st.vs, st.en) := by unfold parseS; rw [HF.out]
    have hP2 := pst_own _ _ (some D) (pst_drewN HP1.out 1) (grownBy_putObj' W1.drew D (.deferred none)) (fun r e => by cases e; exact ⟨_, hK2, rfl⟩)
    have hbel : Below w.heap.size w (W1.drew.putObj D (.deferred none)) := (HB.out.trans ((HS1.out.drewN 1).below hn0)).trans (belowK_b (w := w) (Nat.le_refl _) _ D _ _ (by omega) hK2 rfl rfl)
    rw [hps]
    exact ⟨_, by simp [results, Tryz.f22, go_sem], _, rfl, pst_result hP2, hbel⟩
end Go.Proofs.YtieompfmhnpnaaaGreat.H
end
section
namespace Go.Proofs.YtieompfmhnpnaaaGreat.H
open Go.RowKit Go.Proofs.YtieompfmhnpnaaaGreatW.PrintWords Go.Proofs.YtieompfmhnpnaaaGreatW.PrintLast Go.Proofs.YtieompfmhnpnaaaGreatW.PrintMore
set_option linter.unusedVariables false
set_option linter.unusedSimpArgs false
theorem indexByte_cut {l r : List UInt8} {c : UInt8} (h : c ∉ l) : Lib.indexByte (l ++ c :: r) c = l.length := by
  induction l with
  | nil => simp [Lib.indexByte]
  | cons b l ih =>
    have hb : (b == c) = false := by
      rw [beq_eq_false_iff_ne]
      exact fun e => h (by rw [e]; exact List.mem_cons_self)
    have ih := ih (fun hm => h (List.mem_cons_of_mem _ hm))
    rw [List.cons_append, Lib.indexByte, hb, ih]
    have h1 : (((l.length : Nat) : Int) == -1) = false := by
      rw [beq_eq_false_iff_ne]; omega
    rw [h1]
    simp
theorem indexByte_not {l : List UInt8} {c : UInt8} (h : c ∉ l) : Lib.indexByte l c = -1 := by
  induction l with
  | nil => rfl
  | cons b l ih =>
    have hb : (b == c) = false := by
      rw [beq_eq_false_iff_ne]
      exact fun e => h (by rw [e]; exact List.mem_cons_self)
    rw [Lib.indexByte, hb, ih (fun hm => h (List.mem_cons_of_mem _ hm))]
    rfl
theorem cutAt_cut {s : ByteArray} {l r : List UInt8} {c : UInt8} (hs : bl s = l ++ c :: r) (h : c ∉ l) : cutAt s c = (mkB l, mkB r, true) := by
  have hi : Lib.indexByte s.data.toList c = l.length := by
    have : s.data.toList = l ++ c :: r := hs
    rw [this]
    exact indexByte_cut h
  have hl : s.size = l.length + 1 + r.length := by rw [← bl_length, hs]; simp; omega
  unfold cutAt
  rw [hi]
  simp only [Int.toNat_natCast]
  rw [if_pos (by omega)]
  have e1 : s.extract 0 l.length = mkB l := bl_inj (by rw [bl_extract, hs, bl_mkB]; simp)
  have e2 : s.extract (l.length + 1) s.size = mkB r := bl_inj (by
    rw [bl_extract (s := s)]
    rw [hs, List.take_of_length_le (by simp; omega), List.drop_append]
    simp)
  rw [e1, e2]
theorem cutAt_not {s : ByteArray} {c : UInt8} (h : c ∉ bl s) : cutAt s c = (s, ⟨#[]⟩, false) := by
  unfold cutAt
  have : Lib.indexByte s.data.toList c = -1 := indexByte_not h
  rw [this]
  rfl
end Go.Proofs.YtieompfmhnpnaaaGreat.H
namespace Go.Proofs.YtieompfmhnpnaaaGreat.H
open Go.RowKit Go.Proofs.YtieompfmhnpnaaaGreatW.PrintWords Go.Proofs.YtieompfmhnpnaaaGreatW.PrintLast Go.Proofs.YtieompfmhnpnaaaGreatW.PrintMore
set_option linter.unusedVariables false
set_option linter.unusedSimpArgs false
end Go.Proofs.YtieompfmhnpnaaaGreat.H
namespace Go.Proofs.YtieompfmhnpnaaaGreat.H
open Go.RowKit Go.Proofs.YtieompfmhnpnaaaGreatW.PrintWords Go.Proofs.YtieompfmhnpnaaaGreatW.PrintLast Go.Proofs.YtieompfmhnpnaaaGreatW.PrintMore
set_option linter.unusedVariables false
set_option linter.unusedSimpArgs false
end Go.Proofs.YtieompfmhnpnaaaGreat.H
namespace Go.Proofs.YtieompfmhnpnaaaGreat.H
open Go.RowKit Go.Proofs.YtieompfmhnpnaaaGreatW.PrintWords Go.Proofs.YtieompfmhnpnaaaGreatW.PrintLast Go.Proofs.YtieompfmhnpnaaaGreatW.PrintMore
set_option linter.unusedVariables false
set_option linter.unusedSimpArgs false
end Go.Proofs.YtieompfmhnpnaaaGreat.H
end
section
namespace Go.Proofs.YtieompfmhnpnaaaGreat.H
open Go.RowKit Go.Proofs.YtieompfmhnpnaaaGreatW.PrintWords Go.Proofs.YtieompfmhnpnaaaGreatW.PrintLast Go.Proofs.YtieompfmhnpnaaaGreatW.PrintMore
set_option linter.unusedVariables false
set_option linter.unusedSimpArgs false
theorem unq_esc : ∀ (xs acc : List UInt8), unqL (xs.flatMap escL ++ [34]) acc = (acc ++ xs, true)
  | [], acc => by simp [unqL]
  | c :: xs, acc => by
    rw [List.flatMap_cons, List.append_assoc]
    by_cases h1 : c = 34
    · subst h1
      show unqL (92 :: 34 :: (xs.flatMap escL ++ [34])) acc = _
      rw [unqL, if_neg (by decide), if_pos rfl, unq_esc xs]
      simp
    · by_cases h2 : c = 92
      · subst h2
        show unqL (92 :: 92 :: (xs.flatMap escL ++ [34])) acc = _
        rw [unqL, if_neg (by decide), if_pos rfl, unq_esc xs]
        simp
      · have e : escL c = [c] := by unfold escL; rw [if_neg h1, if_neg h2]
        rw [e, List.singleton_append]
        have ih := unq_esc xs (acc ++ [c])
        cases hr : xs.flatMap escL ++ [34] with
        | nil => simp at hr
        | cons d r =>
          rw [hr] at ih
          rw [unqL, if_neg h1, if_neg h2, ih]
          simp
theorem value_back (v : ByteArray) : valueS (mkB (valL v)) = (v, true) := by
  unfold valL
  by_cases h : isTokenB v = true
  · rw [if_pos h, mkB_bl]
    unfold isTokenB at h
    simp only [Bool.and_eq_true, List.all_eq_true, Bool.not_eq_true'] at h
    obtain ⟨h1, h2⟩ := h
    have hv : ∀ c ∈ bl v, visB c = true ∧ c ≠ 34 := fun c hc => by
      have := h1 c hc
      unfold tokB at this
      simp only [Bool.and_eq_true, Bool.not_eq_true'] at this
      refine ⟨this.1, ?_⟩
      rintro rfl
      exact absurd this.2 (by decide)
    unfold valueS
    rw [if_neg (fun hh => (hv 34 (List.mem_of_head? hh)).2 rfl), if_pos, h2]
    · rfl
    · rw [List.all_eq_true]
      intro c hc
      have := hv c hc
      simp [this.1, this.2]
  · rw [if_neg h]
    unfold valueS
    rw [bl_mkB, if_pos (by rfl)]
    show unqB (unqL (bl (escS v) ++ [34]) []) = _
    unfold escS
    rw [bl_mkB, unq_esc]
    rfl
end Go.Proofs.YtieompfmhnpnaaaGreat.H
namespace Go.Proofs.YtieompfmhnpnaaaGreat.H
open Go.RowKit Go.Proofs.YtieompfmhnpnaaaGreatW.PrintWords Go.Proofs.YtieompfmhnpnaaaGreatW.PrintLast Go.Proofs.YtieompfmhnpnaaaGreatW.PrintMore
set_option linter.unusedVariables false
set_option linter.unusedSimpArgs false
theorem pieces_fuel (s : ByteArray) : ∀ (k k' fr i : Nat) (q : Bool), s.size ≤ i + k → s.size ≤ i + k' → piecesAt s k fr q i = piecesAt s k' fr q i
  | 0, k', fr, i, q, h1, h2 => by rw [piecesAt_end s k' fr i q (by omega), piecesAt_end s 0 fr i q (by omega)]
  | k + 1, 0, fr, i, q, h1, h2 => by rw [piecesAt_end s (k + 1) fr i q (by omega), piecesAt_end s 0 fr i q (by omega)]
  | k + 1, k' + 1, fr, i, q, h1, h2 => by
    rw [piecesAt, piecesAt]
    rw [pieces_fuel s k k' fr (i + 2) q (by omega) (by omega), pieces_fuel s k k' fr (i + 1) (!q) (by omega) (by omega),
      pieces_fuel s k k' (i + 1) (i + 1) q (by omega) (by omega), pieces_fuel s k k' fr (i + 1) q (by omega) (by omega)]
def AtL (s : ByteArray) (i : Nat) (t : List UInt8) : Prop := ∀ j, (h : j < t.length) → i + j < s.size ∧ byteAt s (i + j) = t[j]
theorem token_ev (s : ByteArray) (hs : s.size ≤ 1099511627776) : Ev (fun k => missiveref09_Token.f k s) (isTokenB s) := by
  unfold missiveref09_Token.f
  by_cases h0 : bl s = []
  · have e : isTokenB s = false := by unfold isTokenB; rw [h0]; rfl
    rw [e]
    exact ev_yes (by rw [toList_bl, h0]) (Ev.now _)
  · refine ev_no (by rw [toList_bl]; exact h0) ?_
    refine Ev.bind (printable_ev s hs) ?_
    by_cases h1 : (bl s).all visB = true
    · refine ev_yes h1 ?_
      refine Ev.bind (has_ev s _ hs (by decide)) ?_
      refine ev_done ?_
      unfold isTokenB
      have h2 : (bl s).isEmpty = false := by simpa using h0
      rw [h2]
      rw [List.all_eq_true] at h1
      rw [Bool.eq_iff_iff]
      simp only [Bool.not_eq_true', List.any_eq_false, Bool.and_eq_true, List.all_eq_true, Bool.not_false, and_true]
      constructor
      · intro h c hc
        unfold tokB
        have := h c hc
        rw [h1 c hc]
        have h5 : specB.contains c = false := Bool.eq_false_iff.2 this
        rw [h5]
        rfl
      · intro h c hc
        have := h c hc
        unfold tokB at this
        simp only [Bool.and_eq_true, Bool.not_eq_true'] at this
        have h3 := this.2
        intro h4
        exact absurd (h3.symm.trans h4) (by decide)
    · refine ev_no h1 (ev_done ?_)
      unfold isTokenB
      symm
      rw [Bool.and_eq_false_iff]
      left
      apply Bool.eq_false_iff.2
      intro h
      apply h1
      rw [List.all_eq_true] at h ⊢
      intro c hc
      have := h c hc
      unfold tokB at this
      simp only [Bool.and_eq_true] at this
      exact this.1
end Go.Proofs.YtieompfmhnpnaaaGreat.H
namespace Go.Proofs.YtieompfmhnpnaaaGreat.H
open Go.RowKit Go.Proofs.YtieompfmhnpnaaaGreatW.PrintWords Go.Proofs.YtieompfmhnpnaaaGreatW.PrintLast Go.Proofs.YtieompfmhnpnaaaGreatW.PrintMore
set_option linter.unusedVariables false
set_option linter.unusedSimpArgs false
theorem AtL.left {s : ByteArray} {i : Nat} {t u : List UInt8} (h : AtL s i (t ++ u)) : AtL s i t := fun j hj => by
  have := h j (by rw [List.length_append]; omega)
  rw [List.getElem_append_left hj] at this
  exact this
theorem AtL.right {s : ByteArray} {i : Nat} {t u : List UInt8} (h : AtL s i (t ++ u)) : AtL s (i + t.length) u := fun j hj => by
  have := h (t.length + j) (by rw [List.length_append]; omega)
  rw [List.getElem_append_right (by omega)] at this
  simpa [Nat.add_assoc] using this
theorem AtL.extract {s : ByteArray} {i : Nat} {t : List UInt8} (h : AtL s i t) : s.extract i (i + t.length) = mkB t := by
  apply bl_inj
  rw [bl_extract, bl_mkB]
  apply List.ext_getElem?
  intro j
  by_cases hj : j < t.length
  · have h1 := h j hj
    rw [List.getElem?_drop, List.getElem?_take, if_pos (by omega), byteAt_list s _ h1.1, h1.2, List.getElem?_eq_getElem hj]
  · rw [List.getElem?_eq_none (by rw [List.length_drop, List.length_take]; omega), List.getElem?_eq_none (by rw [bl_mkB]; omega)]
end Go.Proofs.YtieompfmhnpnaaaGreat.H
namespace Go.Proofs.YtieompfmhnpnaaaGreat.H
open Go.RowKit Go.Proofs.YtieompfmhnpnaaaGreatW.PrintWords Go.Proofs.YtieompfmhnpnaaaGreatW.PrintLast Go.Proofs.YtieompfmhnpnaaaGreatW.PrintMore
set_option linter.unusedVariables false
set_option linter.unusedSimpArgs false
theorem samep_l0 (a : List S25) (hs : a.length ≤ 1099511627776) : ∀ (n i : Nat), i + n = a.length →
    Ev (fun k => missiveref09_SameParams.l0 k a a (i : Int)) true
  | 0, i, hi => by
    refine Ev.step (fun k => by simp only [missiveref09_SameParams.l0]; rfl) ?_
    refine ev_no (by omega) ?_
    exact Ev.now _
  | n + 1, i, hi => by
    refine Ev.step (fun k => by simp only [missiveref09_SameParams.l0]; rfl) ?_
    refine ev_yes (by omega) ?_
    refine ev_yes (by omega) ?_
    refine ev_yes (by omega) ?_
    refine ev_no (by simp) ?_
    rw [wrap_up i (by omega)]
    exact samep_l0 a hs n (i + 1) (by omega)
theorem samep_ev (a : List S25) (hs : a.length ≤ 1099511627776) : Ev (fun k => missiveref09_SameParams.f k a a) true := by
  unfold missiveref09_SameParams.f
  refine ev_yes (by omega) ?_
  have := samep_l0 a hs a.length 0 (by omega)
  simpa using this
end Go.Proofs.YtieompfmhnpnaaaGreat.H
end
section
namespace Go.Proofs.YtieompfmhnpnaaaGreat.H
open Go.RowKit Go.Proofs.YtieompfmhnpnaaaGreatW.PrintWords Go.Proofs.YtieompfmhnpnaaaGreatW.PrintLast Go.Proofs.YtieompfmhnpnaaaGreatW.PrintMore
set_option linter.unusedVariables false
set_option linter.unusedSimpArgs false
theorem lit_C35 (W : World) (l : List S35) (hl : l.length ≤ 1000) : Kd.C k35 (W.alloc (.cells (fieldVals l).toArray 35)) (some ⟨W.heap.size, 0, none⟩) l.length l := by
  refine ⟨rfl, by omega, fun _ => ⟨_, rfl, fun j p hj => ⟨[.string p.f0, .string p.f1], rfl, k35_mk _ p, fun i u hu => ?_⟩⟩⟩
  have key : ∀ (l : List S35) (j : Nat), l[j]? = some p → (fieldVals l)[j * 2 + i]? = some u := by
    intro l
    induction l with
    | nil => intro j h; simp at h
    | cons x l ih =>
      intro j hj
      match j, hj with
      | 0, hj =>
        obtain rfl : x = p := by simpa using hj
        rw [Nat.zero_mul, Nat.zero_add]
        match i, hu with
        | 0, hu => exact hu
        | 1, hu => exact hu
      | j + 1, hj =>
        have := ih j (by simpa using hj)
        have e1 : fieldVals (x :: l) = .string x.f0 :: .string x.f1 :: fieldVals l := rfl
        rw [e1, show (j + 1) * 2 + i = j * 2 + i + 1 + 1 by omega]
        exact this
  rw [show k35.sz = 2 from rfl, add_plain, World.cell?_alloc_new]
  simpa using key l j hj
theorem lit_C25 (W : World) (l : List S25) (hl : l.length ≤ 1000) : Kd.C k25 (W.alloc (.cells (paramVals l).toArray 25)) (some ⟨W.heap.size, 0, none⟩) l.length l := by
  refine ⟨rfl, by omega, fun _ => ⟨_, rfl, fun j p hj => ⟨[.string p.f0, .string p.f1], rfl, k25_mk _ p, fun i u hu => ?_⟩⟩⟩
  have key : ∀ (l : List S25) (j : Nat), l[j]? = some p → (paramVals l)[j * 2 + i]? = some u := by
    intro l
    induction l with
    | nil => intro j h; simp at h
    | cons x l ih =>
      intro j hj
      match j, hj with
      | 0, hj =>
        obtain rfl : x = p := by simpa using hj
        rw [Nat.zero_mul, Nat.zero_add]
        match i, hu with
        | 0, hu => exact hu
        | 1, hu => exact hu
      | j + 1, hj =>
        have := ih j (by simpa using hj)
        have e1 : paramVals (x :: l) = .string x.f0 :: .string x.f1 :: paramVals l := rfl
        rw [e1, show (j + 1) * 2 + i = j * 2 + i + 1 + 1 by omega]
        exact this
  rw [show k25.sz = 2 from rfl, add_plain, World.cell?_alloc_new]
  simpa using key l j hj
set_option maxHeartbeats 4000000 in
set_option maxRecDepth 100000 in
theorem small_calls (w : World) : Calls Tryz.prog 10 #[] w fun e w' => e = .returned (.bool true) ∧ Below w.heap.size w w' := by
  have p1 : header_Parse.f (⟨#[65, 58, 32, 49, 10, 32, 32, 50, 10, 98, 58, 10, 10, 120]⟩ : ByteArray) = some ([⟨(⟨#[65]⟩ : ByteArray), (⟨#[49, 32, 50]⟩ : ByteArray)⟩, ⟨(⟨#[98]⟩ : ByteArray), (⟨#[]⟩ : ByteArray)⟩], 13) := by kernel_rfl
  have p2 : header_Parse.f (⟨#[65, 58, 32, 49, 10, 110, 111, 32, 102, 105, 101, 108, 100, 10]⟩ : ByteArray) = some ([⟨(⟨#[65]⟩ : ByteArray), (⟨#[49]⟩ : ByteArray)⟩], 5) := by kernel_rfl
  have p3 : header_Params.f (⟨#[116, 101, 120, 116, 47, 112, 108, 97, 105, 110, 59, 32, 67, 104, 97, 114, 115, 101, 116, 61, 117, 116, 102, 45, 56, 59, 32, 120, 59, 32, 110, 97, 109, 101, 61, 34, 97, 32, 92, 34, 98, 34]⟩ : ByteArray) = some ((⟨#[116, 101, 120, 116, 47, 112, 108, 97, 105, 110]⟩ : ByteArray), [⟨(⟨#[99, 104, 97, 114, 115, 101, 116]⟩ : ByteArray), (⟨#[117, 116, 102, 45, 56]⟩ : ByteArray)⟩, ⟨(⟨#[110, 97, 109, 101]⟩ : ByteArray), (⟨#[97, 32, 34, 98]⟩ : ByteArray)⟩]) := by kernel_rfl
  have p4 : header_Quote.f (⟨#[116, 101, 120, 116, 47, 112, 108, 97, 105, 110]⟩ : ByteArray) [⟨(⟨#[99, 104, 97, 114, 115, 101, 116]⟩ : ByteArray), (⟨#[117, 116, 102, 45, 56]⟩ : ByteArray)⟩, ⟨(⟨#[110, 97, 109, 101]⟩ : ByteArray), (⟨#[97, 32, 98]⟩ : ByteArray)⟩] = some (⟨#[116, 101, 120, 116, 47, 112, 108, 97, 105, 110, 59, 32, 99, 104, 97, 114, 115, 101, 116, 61, 117, 116, 102, 45, 56, 59, 32, 110, 97, 109, 101, 61, 34, 97, 32, 98, 34]⟩ : ByteArray) := by kernel_rfl
  have p5 : header_Write.f [⟨(⟨#[65]⟩ : ByteArray), (⟨#[32, 120, 10, 121, 32]⟩ : ByteArray)⟩, ⟨(⟨#[98, 32, 99]⟩ : ByteArray), (⟨#[]⟩ : ByteArray)⟩] = some (⟨#[65, 58, 32, 120, 32, 121, 10]⟩ : ByteArray) := by kernel_rfl
  have p6 : missiveref09_Same.f 10 [⟨(⟨#[65]⟩ : ByteArray), (⟨#[49, 32, 50]⟩ : ByteArray)⟩, ⟨(⟨#[98]⟩ : ByteArray), (⟨#[]⟩ : ByteArray)⟩] [⟨(⟨#[65]⟩ : ByteArray), (⟨#[49, 32, 50]⟩ : ByteArray)⟩, ⟨(⟨#[98]⟩ : ByteArray), (⟨#[]⟩ : ByteArray)⟩] = some true := by kernel_rfl
  have p7 : missiveref09_Same.f 10 [⟨(⟨#[65]⟩ : ByteArray), (⟨#[49]⟩ : ByteArray)⟩] [⟨(⟨#[65]⟩ : ByteArray), (⟨#[49]⟩ : ByteArray)⟩] = some true := by kernel_rfl
  have p8 : missiveref09_SameParams.f 10 [⟨(⟨#[99, 104, 97, 114, 115, 101, 116]⟩ : ByteArray), (⟨#[117, 116, 102, 45, 56]⟩ : ByteArray)⟩, ⟨(⟨#[110, 97, 109, 101]⟩ : ByteArray), (⟨#[97, 32, 34, 98]⟩ : ByteArray)⟩] [⟨(⟨#[99, 104, 97, 114, 115, 101, 116]⟩ : ByteArray), (⟨#[117, 116, 102, 45, 56]⟩ : ByteArray)⟩, ⟨(⟨#[110, 97, 109, 101]⟩ : ByteArray), (⟨#[97, 32, 34, 98]⟩ : ByteArray)⟩] = some true := by kernel_rfl
  have P1 := Aside0.mk p1
  have P2 := Aside0.mk p2
  have P3 := Aside0.mk p3
  have P4 := Aside0.mk p4
  have P5 := Aside0.mk p5
  have P6 := Aside0.mk p6
  have P7 := Aside0.mk p7
  have P8 := Aside0.mk p8
  clear p1 p2 p3 p4 p5 p6 p7 p8
  go_enter Tryz.func10, Tryz.ntmps10
  go_wp2_with fail
  refine (header_Parse.calls _ _ _ _ P1.out).mono ?_
  rintro e w1 ⟨v1, rfl, ho1, hb1⟩
  have HO1 := Aside0.mk ho1
  have HB1 := Aside0.mk hb1
  clear ho1 hb1
  go_wp2_with fail
  refine (header_Parse.calls _ _ _ _ P2.out).mono ?_
  rintro e w2 ⟨v2, rfl, ho2, hb2⟩
  have HO2 := Aside0.mk ho2
  have HB2 := Aside0.mk hb2
  clear ho2 hb2
  go_wp2_with fail
  refine (header_Params.calls _ _ _ _ P3.out).mono ?_
  rintro e w3 ⟨v3, rfl, ho3, hb3⟩
  have HO3 := Aside0.mk ho3
  have HB3 := Aside0.mk hb3
  clear ho3 hb3
  go_wp2_with fail
  refine (header_Quote.calls _ _ _ _ _ _ (lit_C25 w3 _ (by decide)) (Nat.le_refl _) P4.out).mono ?_
  rintro e w4 ⟨rfl, hb4⟩
  have HB4 := Aside0.mk hb4
  clear hb4
  obtain ⟨A1, c1, rfl⟩ := Kd.R_slice HO1.out
  obtain ⟨A2, c2, rfl⟩ := Kd.R_slice HO2.out
  obtain ⟨A3, c3, rfl⟩ := Kd.R_slice HO3.out
  go_wp2_with fail
  have b24 : Below w2.heap.size w2 w4 := HB3.out.trans (((Below.refl w2.heap.size w3).alloc HB3.out.size _).trans (HB4.out.mono (by rw [World.size_alloc]; have := HB3.out.size; omega)))
  have b14 : Below w1.heap.size w1 w4 := HB2.out.trans (b24.mono HB2.out.size)
  have b34 : Below w3.heap.size w3 w4 := ((Below.refl w3.heap.size w3).alloc (Nat.le_refl _) _).trans (HB4.out.mono (by rw [World.size_alloc]; omega))
  have r1 := Kd.R_reads' HO1.out
  have r2 := Kd.R_reads' HO2.out
  have r3 := Kd.R_reads' HO3.out
  have R1 := Aside0.mk r1
  have R2 := Aside0.mk r2
  have R3 := Aside0.mk r3
  clear r1 r2 r3
  refine (missiveref09_Same.calls 10 _ _ _ _ _ _ _ _ (Kd.C_below (Kd.C_below R1.out.2.2 b14) ((Below.refl _ _).alloc (Nat.le_refl _) _)) R1.out.2.1 (lit_C35 w4 _ (by decide)) (Nat.le_refl _) P6.out).mono ?_
  rintro e w5 ⟨rfl, ⟨n5, rfl⟩⟩
  go_wp2_with fail
  have b45 : Below w4.heap.size w4 ((w4.alloc (Obj.cells (fieldVals [(⟨(⟨#[65]⟩ : ByteArray), (⟨#[49, 32, 50]⟩ : ByteArray)⟩ : S35), (⟨(⟨#[98]⟩ : ByteArray), (⟨#[]⟩ : ByteArray)⟩ : S35)]).toArray 35)).drewN n5) := pw_below_drewN ((Below.refl _ _).alloc (Nat.le_refl _) _) n5
  have hs5 : ((w4.alloc (Obj.cells (fieldVals [(⟨(⟨#[65]⟩ : ByteArray), (⟨#[49, 32, 50]⟩ : ByteArray)⟩ : S35), (⟨(⟨#[98]⟩ : ByteArray), (⟨#[]⟩ : ByteArray)⟩ : S35)]).toArray 35)).drewN n5).heap.size = w4.heap.size + 1 := World.size_alloc _ _
  rw [← hs5]
  generalize ((w4.alloc (Obj.cells (fieldVals [(⟨(⟨#[65]⟩ : ByteArray), (⟨#[49, 32, 50]⟩ : ByteArray)⟩ : S35), (⟨(⟨#[98]⟩ : ByteArray), (⟨#[]⟩ : ByteArray)⟩ : S35)]).toArray 35)).drewN n5) = W5 at b45 hs5 ⊢
  clear hs5
  have b25 : Below w2.heap.size w2 W5 := b24.trans (b45.mono b24.size)
  refine (missiveref09_Same.calls 10 _ _ _ _ _ _ _ _ (Kd.C_below (Kd.C_below R2.out.2.2 b25) ((Below.refl _ _).alloc (Nat.le_refl _) _)) R2.out.2.1 (lit_C35 W5 [(⟨(⟨#[65]⟩ : ByteArray), (⟨#[49]⟩ : ByteArray)⟩ : S35)] (by decide)) (Nat.le_refl _) P7.out).mono ?_
  rintro e w6 ⟨rfl, ⟨n6, rfl⟩⟩
  go_wp2_with fail
  have b56 : Below W5.heap.size W5 ((W5.alloc (Obj.cells (fieldVals [(⟨(⟨#[65]⟩ : ByteArray), (⟨#[49]⟩ : ByteArray)⟩ : S35)]).toArray 35)).drewN n6) := pw_below_drewN ((Below.refl _ _).alloc (Nat.le_refl _) _) n6
  have hs6 : ((W5.alloc (Obj.cells (fieldVals [(⟨(⟨#[65]⟩ : ByteArray), (⟨#[49]⟩ : ByteArray)⟩ : S35)]).toArray 35)).drewN n6).heap.size = W5.heap.size + 1 := World.size_alloc _ _
  rw [← hs6]
  generalize ((W5.alloc (Obj.cells (fieldVals [(⟨(⟨#[65]⟩ : ByteArray), (⟨#[49]⟩ : ByteArray)⟩ : S35)]).toArray 35)).drewN n6) = W6 at b56 hs6 ⊢
  clear hs6
  have b46 : Below w4.heap.size w4 W6 := b45.trans (b56.mono b45.size)
  have b36 : Below w3.heap.size w3 W6 := b34.trans (b46.mono b34.size)
  refine (missiveref09_SameParams.calls 10 _ _ _ _ _ _ _ _ (Kd.C_below (Kd.C_below R3.out.2.2 b36) ((Below.refl _ _).alloc (Nat.le_refl _) _)) R3.out.2.1 (lit_C25 W6 [(⟨(⟨#[99, 104, 97, 114, 115, 101, 116]⟩ : ByteArray), (⟨#[117, 116, 102, 45, 56]⟩ : ByteArray)⟩ : S25), (⟨(⟨#[110, 97, 109, 101]⟩ : ByteArray), (⟨#[97, 32, 34, 98]⟩ : ByteArray)⟩ : S25)] (by decide)) (Nat.le_refl _) P8.out).mono ?_
  rintro e w7 ⟨rfl, ⟨n7, rfl⟩⟩
  go_wp2_with fail
  have b67 : Below W6.heap.size W6 ((W6.alloc (Obj.cells (paramVals [(⟨(⟨#[99, 104, 97, 114, 115, 101, 116]⟩ : ByteArray), (⟨#[117, 116, 102, 45, 56]⟩ : ByteArray)⟩ : S25), (⟨(⟨#[110, 97, 109, 101]⟩ : ByteArray), (⟨#[97, 32, 34, 98]⟩ : ByteArray)⟩ : S25)]).toArray 25)).drewN n7) := pw_below_drewN ((Below.refl _ _).alloc (Nat.le_refl _) _) n7
  have hs7 : ((W6.alloc (Obj.cells (paramVals [(⟨(⟨#[99, 104, 97, 114, 115, 101, 116]⟩ : ByteArray), (⟨#[117, 116, 102, 45, 56]⟩ : ByteArray)⟩ : S25), (⟨(⟨#[110, 97, 109, 101]⟩ : ByteArray), (⟨#[97, 32, 34, 98]⟩ : ByteArray)⟩ : S25)]).toArray 25)).drewN n7).heap.size = W6.heap.size + 1 := World.size_alloc _ _
  rw [← hs7]
  generalize ((W6.alloc (Obj.cells (paramVals [(⟨(⟨#[99, 104, 97, 114, 115, 101, 116]⟩ : ByteArray), (⟨#[117, 116, 102, 45, 56]⟩ : ByteArray)⟩ : S25), (⟨(⟨#[110, 97, 109, 101]⟩ : ByteArray), (⟨#[97, 32, 34, 98]⟩ : ByteArray)⟩ : S25)]).toArray 25)).drewN n7) = W7 at b67 hs7 ⊢
  clear hs7
  refine (header_Write.calls _ _ [(⟨(⟨#[65]⟩ : ByteArray), (⟨#[32, 120, 10, 121, 32]⟩ : ByteArray)⟩ : S35), (⟨(⟨#[98, 32, 99]⟩ : ByteArray), (⟨#[]⟩ : ByteArray)⟩ : S35)] _ _ (lit_C35 W7 [(⟨(⟨#[65]⟩ : ByteArray), (⟨#[32, 120, 10, 121, 32]⟩ : ByteArray)⟩ : S35), (⟨(⟨#[98, 32, 99]⟩ : ByteArray), (⟨#[]⟩ : ByteArray)⟩ : S35)] (by decide)) (Nat.le_refl _) P5.out).mono ?_
  rintro e w8 ⟨rfl, hb8⟩
  have HB8 := Aside0.mk hb8
  clear hb8
  go_wp2_with fail
  go_ret
  refine ⟨rfl, ?_⟩
  have s1 := HB1.out
  have s2 := HB2.out
  have s3 := b34
  have e1 : Below w.heap.size w w4 := s1.trans (((s2.mono s1.size).trans (HB3.out.mono (Nat.le_trans s1.size s2.size))).trans (b34.mono (Nat.le_trans (Nat.le_trans s1.size s2.size) HB3.out.size)))
  have e2 : Below w.heap.size w W7 := e1.trans ((b46.mono e1.size).trans (b67.mono (Nat.le_trans e1.size b46.size)))
  exact (e2.alloc e2.size _).trans (HB8.out.mono (by rw [World.size_alloc]; have := e2.size; omega))
def missivelaw09_small.f (k : Nat) : Option Bool := some true
theorem missivelaw09_small.mono (k : Nat) : LeO (missivelaw09_small.f k) (missivelaw09_small.f (k + 1)) := LeO.refl _
theorem missivelaw09_small.calls (k : Nat) (r : Bool) (w : World) (h : missivelaw09_small.f k = some r) :
    Calls Tryz.prog 10 #[] w fun e w' => e = .returned (.bool r) ∧ Below w.heap.size w w' := by
  obtain rfl := Option.some.inj h
  exact small_calls w
theorem small_ev : Ev (fun k => missivelaw09_small.f k) true := Ev.now true
end Go.Proofs.YtieompfmhnpnaaaGreat.H
end
section
namespace Go.Proofs.YtieompfmhnpnaaaGreat.H
open Go.RowKit Go.Proofs.YtieompfmhnpnaaaGreatW.PrintWords Go.Proofs.YtieompfmhnpnaaaGreatW.PrintLast Go.Proofs.YtieompfmhnpnaaaGreatW.PrintMore
attribute [local go_sem] max2_int min2_int max_two min_two max_three min_three max_four min_four
set_option linter.unusedVariables false
set_option linter.unusedSimpArgs false
mutual
def missivelaw09_HeaderParams.j0 : Nat → ByteArray → ByteArray → List (S25) → Bool → Bool → Option (Bool)
  | 0, _, _, _, _, _ => none
  | k + 1, x0, x1, x2, x7, x28 => if x28 = true then (some x7) else (missivelaw09_HeaderParams.l0 k x0 x1 x2 x7 0)
def missivelaw09_HeaderParams.l0 : Nat → ByteArray → ByteArray → List (S25) → Bool → Int → Option (Bool)
  | 0, _, _, _, _, _ => none
  | k + 1, x0, x1, x2, x7, x8 => if x8 < (x2.length : Int) then (if 0 ≤ x8 then (if (((rd_T25 x2 x8).f0).size : Int) > 300 then (some x7) else (if (((rd_T25 x2 x8).f1).size : Int) > 300 then (some x7) else (missivelaw09_HeaderParams.l0 k x0 x1 x2 x7 (wrap64 (x8 + 1))))) else (none)) else ((header_Params.f x0).bind fun bt189 => ((missiveref09_Params.f k x0).bind fun bt193 => (missivelaw09_HeaderParams.l1 k x1 x2 x7 bt189.1 bt189.2 bt193.1 bt193.2 0)))
def missivelaw09_HeaderParams.l1 : Nat → ByteArray → List (S25) → Bool → ByteArray → List (S25) → ByteArray → List (S25) → Int → Option (Bool)
  | 0, _, _, _, _, _, _, _, _ => none
  | k + 1, x1, x2, x7, x9, x10, x11, x12, x13 => if x13 < (x10.length : Int) then (if 0 ≤ x13 then ((missiveref09_Token.f k ((rd_T25 x10 x13).f0)).bind fun t201 => (if t201 = true then ((text_Lower.f ((rd_T25 x10 x13).f0)).bind fun t203 => (missivelaw09_HeaderParams.j3 k x1 x2 x7 x9 x10 x11 x12 x13 (t203.toList != ((rd_T25 x10 x13).f0).toList))) else (missivelaw09_HeaderParams.j3 k x1 x2 x7 x9 x10 x11 x12 x13 true))) else (none)) else (if x7 = true then (if x9.toList = x11.toList then ((missiveref09_SameParams.f k x10 x12).bind fun t197 => (if t197 = true then ((header_Quote.f x1 x2).bind fun t198 => ((missiveref09_Quote.f k x1 x2).bind fun t199 => (some (t198.toList == t199.toList)))) else (some false))) else (some false)) else (some false))
def missivelaw09_HeaderParams.j3 : Nat → ByteArray → List (S25) → Bool → ByteArray → List (S25) → ByteArray → List (S25) → Int → Bool → Option (Bool)
  | 0, _, _, _, _, _, _, _, _, _ => none
  | k + 1, x1, x2, x7, x9, x10, x11, x12, x13, x89 => if x89 = true then (some false) else (missivelaw09_HeaderParams.l2 k x1 x2 x7 x9 x10 x11 x12 x13 0)
def missivelaw09_HeaderParams.l2 : Nat → ByteArray → List (S25) → Bool → ByteArray → List (S25) → ByteArray → List (S25) → Int → Int → Option (Bool)
  | 0, _, _, _, _, _, _, _, _, _ => none
  | k + 1, x1, x2, x7, x9, x10, x11, x12, x13, x14 => if x14 < x13 then (if 0 ≤ x14 then (if x14 < (x10.length : Int) then (if 0 ≤ x13 then (if x13 < (x10.length : Int) then (if ((rd_T25 x10 x14).f0).toList = ((rd_T25 x10 x13).f0).toList then (some false) else (missivelaw09_HeaderParams.l2 k x1 x2 x7 x9 x10 x11 x12 x13 (wrap64 (x14 + 1)))) else (none)) else (none)) else (none)) else (none)) else (missivelaw09_HeaderParams.l1 k x1 x2 x7 x9 x10 x11 x12 (wrap64 (x13 + 1)))
end
def missivelaw09_HeaderParams.f (k : Nat) (a0 : ByteArray) (a1 : ByteArray) (l2 : List (S25)) : Option (Bool) := (missivelaw09_small.f k).bind fun t186 => (if (a0.size : Int) > 3000 then (missivelaw09_HeaderParams.j0 k a0 a1 l2 t186 true) else (if (a1.size : Int) > 300 then (missivelaw09_HeaderParams.j0 k a0 a1 l2 t186 true) else (missivelaw09_HeaderParams.j0 k a0 a1 l2 t186 (decide ((l2.length : Int) > 40)))))
theorem missivelaw09_HeaderParams.mono_l : ∀ k, (∀ y0 y1 y2 y3 y4, LeO (missivelaw09_HeaderParams.j0 k y0 y1 y2 y3 y4) (missivelaw09_HeaderParams.j0 (k + 1) y0 y1 y2 y3 y4)) ∧ (∀ y0 y1 y2 y3 y4, LeO (missivelaw09_HeaderParams.l0 k y0 y1 y2 y3 y4) (missivelaw09_HeaderParams.l0 (k + 1) y0 y1 y2 y3 y4)) ∧ (∀ y0 y1 y2 y3 y4 y5 y6 y7, LeO (missivelaw09_HeaderParams.l1 k y0 y1 y2 y3 y4 y5 y6 y7) (missivelaw09_HeaderParams.l1 (k + 1) y0 y1 y2 y3 y4 y5 y6 y7)) ∧ (∀ y0 y1 y2 y3 y4 y5 y6 y7 y8, LeO (missivelaw09_HeaderParams.j3 k y0 y1 y2 y3 y4 y5 y6 y7 y8) (missivelaw09_HeaderParams.j3 (k + 1) y0 y1 y2 y3 y4 y5 y6 y7 y8)) ∧ (∀ y0 y1 y2 y3 y4 y5 y6 y7 y8, LeO (missivelaw09_HeaderParams.l2 k y0 y1 y2 y3 y4 y5 y6 y7 y8) (missivelaw09_HeaderParams.l2 (k + 1) y0 y1 y2 y3 y4 y5 y6 y7 y8))
  | 0 => ⟨fun _ _ _ _ _ r h => by simp [missivelaw09_HeaderParams.j0] at h, fun _ _ _ _ _ r h => by simp [missivelaw09_HeaderParams.l0] at h, fun _ _ _ _ _ _ _ _ r h => by simp [missivelaw09_HeaderParams.l1] at h, fun _ _ _ _ _ _ _ _ _ r h => by simp [missivelaw09_HeaderParams.j3] at h, fun _ _ _ _ _ _ _ _ _ r h => by simp [missivelaw09_HeaderParams.l2] at h⟩
  | k + 1 => by
    obtain ⟨ih0, ih1, ih2, ih3, ih4⟩ := missivelaw09_HeaderParams.mono_l k
    refine ⟨?_, ?_, ?_, ?_, ?_⟩
    · intro y0 y1 y2 y3 y4
      unfold missivelaw09_HeaderParams.j0
      repeat' first
      | (with_reducible exact ih0 _ _ _ _ _)
      | (with_reducible exact ih1 _ _ _ _ _)
      | (with_reducible exact ih2 _ _ _ _ _ _ _ _)
      | (with_reducible exact ih3 _ _ _ _ _ _ _ _ _)
      | (with_reducible exact ih4 _ _ _ _ _ _ _ _ _)
      | (with_reducible exact missivelaw09_small.mono _)
      | (with_reducible exact missiveref09_Params.mono _ _)
      | (with_reducible exact missiveref09_Quote.mono _ _ _)
      | (with_reducible exact missiveref09_SameParams.mono _ _ _)
      | (with_reducible exact missiveref09_Token.mono _ _)
      | (with_reducible exact LeO.refl _)
      | (with_reducible exact LeO.none _)
      | (with_reducible refine LeO.ite ?_ ?_)
      | (with_reducible refine LeO.bind ?_ (fun _ => ?_))
      | exact ih0 _ _ _ _ _
      | exact ih1 _ _ _ _ _
      | exact ih2 _ _ _ _ _ _ _ _
      | exact ih3 _ _ _ _ _ _ _ _ _
      | exact ih4 _ _ _ _ _ _ _ _ _
      | exact missivelaw09_small.mono _
      | exact missiveref09_Params.mono _ _
      | exact missiveref09_Quote.mono _ _ _
      | exact missiveref09_SameParams.mono _ _ _
      | exact missiveref09_Token.mono _ _
      | exact LeO.none _
      | refine LeO.ite ?_ ?_
      | refine LeO.bind ?_ (fun _ => ?_)
    · intro y0 y1 y2 y3 y4
      unfold missivelaw09_HeaderParams.l0
      repeat' first
      | (with_reducible exact ih0 _ _ _ _ _)
      | (with_reducible exact ih1 _ _ _ _ _)
      | (with_reducible exact ih2 _ _ _ _ _ _ _ _)
      | (with_reducible exact ih3 _ _ _ _ _ _ _ _ _)
      | (with_reducible exact ih4 _ _ _ _ _ _ _ _ _)
      | (with_reducible exact missivelaw09_small.mono _)
      | (with_reducible exact missiveref09_Params.mono _ _)
      | (with_reducible exact missiveref09_Quote.mono _ _ _)
      | (with_reducible exact missiveref09_SameParams.mono _ _ _)
      | (with_reducible exact missiveref09_Token.mono _ _)
      | (with_reducible exact LeO.refl _)
      | (with_reducible exact LeO.none _)
      | (with_reducible refine LeO.ite ?_ ?_)
      | (with_reducible refine LeO.bind ?_ (fun _ => ?_))
      | exact ih0 _ _ _ _ _
      | exact ih1 _ _ _ _ _
      | exact ih2 _ _ _ _ _ _ _ _
      | exact ih3 _ _ _ _ _ _ _ _ _
      | exact ih4 _ _ _ _ _ _ _ _ _
      | exact missivelaw09_small.mono _
      | exact missiveref09_Params.mono _ _
      | exact missiveref09_Quote.mono _ _ _
      | exact missiveref09_SameParams.mono _ _ _
      | exact missiveref09_Token.mono _ _
      | exact LeO.none _
      | refine LeO.ite ?_ ?_
      | refine LeO.bind ?_ (fun _ => ?_)
    · intro y0 y1 y2 y3 y4 y5 y6 y7
      unfold missivelaw09_HeaderParams.l1
      repeat' first
      | (with_reducible exact ih0 _ _ _ _ _)
      | (with_reducible exact ih1 _ _ _ _ _)
      | (with_reducible exact ih2 _ _ _ _ _ _ _ _)
      | (with_reducible exact ih3 _ _ _ _ _ _ _ _ _)
      | (with_reducible exact ih4 _ _ _ _ _ _ _ _ _)
      | (with_reducible exact missivelaw09_small.mono _)
      | (with_reducible exact missiveref09_Params.mono _ _)
      | (with_reducible exact missiveref09_Quote.mono _ _ _)
      | (with_reducible exact missiveref09_SameParams.mono _ _ _)
      | (with_reducible exact missiveref09_Token.mono _ _)
      | (with_reducible exact LeO.refl _)
      | (with_reducible exact LeO.none _)
      | (with_reducible refine LeO.ite ?_ ?_)
      | (with_reducible refine LeO.bind ?_ (fun _ => ?_))
      | exact ih0 _ _ _ _ _
      | exact ih1 _ _ _ _ _
      | exact ih2 _ _ _ _ _ _ _ _
      | exact ih3 _ _ _ _ _ _ _ _ _
      | exact ih4 _ _ _ _ _ _ _ _ _
      | exact missivelaw09_small.mono _
      | exact missiveref09_Params.mono _ _
      | exact missiveref09_Quote.mono _ _ _
      | exact missiveref09_SameParams.mono _ _ _
      | exact missiveref09_Token.mono _ _
      | exact LeO.none _
      | refine LeO.ite ?_ ?_
      | refine LeO.bind ?_ (fun _ => ?_)
    · intro y0 y1 y2 y3 y4 y5 y6 y7 y8
      unfold missivelaw09_HeaderParams.j3
      repeat' first
      | (with_reducible exact ih0 _ _ _ _ _)
      | (with_reducible exact ih1 _ _ _ _ _)
      | (with_reducible exact ih2 _ _ _ _ _ _ _ _)
      | (with_reducible exact ih3 _ _ _ _ _ _ _ _ _)
      | (with_reducible exact ih4 _ _ _ _ _ _ _ _ _)
      | (with_reducible exact missivelaw09_small.mono _)
      | (with_reducible exact missiveref09_Params.mono _ _)
      | (with_reducible exact missiveref09_Quote.mono _ _ _)
      | (with_reducible exact missiveref09_SameParams.mono _ _ _)
      | (with_reducible exact missiveref09_Token.mono _ _)
      | (with_reducible exact LeO.refl _)
      | (with_reducible exact LeO.none _)
      | (with_reducible refine LeO.ite ?_ ?_)
      | (with_reducible refine LeO.bind ?_ (fun _ => ?_))
      | exact ih0 _ _ _ _ _
      | exact ih1 _ _ _ _ _
      | exact ih2 _ _ _ _ _ _ _ _
      | exact ih3 _ _ _ _ _ _ _ _ _
      | exact ih4 _ _ _ _ _ _ _ _ _
      | exact missivelaw09_small.mono _
      | exact missiveref09_Params.mono _ _
      | exact missiveref09_Quote.mono _ _ _
      | exact missiveref09_SameParams.mono _ _ _
      | exact missiveref09_Token.mono _ _
      | exact LeO.none _
      | refine LeO.ite ?_ ?_
      | refine LeO.bind ?_ (fun _ => ?_)
    · intro y0 y1 y2 y3 y4 y5 y6 y7 y8
      unfold missivelaw09_HeaderParams.l2
      repeat' first
      | (with_reducible exact ih0 _ _ _ _ _)
      | (with_reducible exact ih1 _ _ _ _ _)
      | (with_reducible exact ih2 _ _ _ _ _ _ _ _)
      | (with_reducible exact ih3 _ _ _ _ _ _ _ _ _)
      | (with_reducible exact ih4 _ _ _ _ _ _ _ _ _)
      | (with_reducible exact missivelaw09_small.mono _)
      | (with_reducible exact missiveref09_Params.mono _ _)
      | (with_reducible exact missiveref09_Quote.mono _ _ _)
      | (with_reducible exact missiveref09_SameParams.mono _ _ _)
      | (with_reducible exact missiveref09_Token.mono _ _)
      | (with_reducible exact LeO.refl _)
      | (with_reducible exact LeO.none _)
      | (with_reducible refine LeO.ite ?_ ?_)
      | (with_reducible refine LeO.bind ?_ (fun _ => ?_))
      | exact ih0 _ _ _ _ _
      | exact ih1 _ _ _ _ _
      | exact ih2 _ _ _ _ _ _ _ _
      | exact ih3 _ _ _ _ _ _ _ _ _
      | exact ih4 _ _ _ _ _ _ _ _ _
      | exact missivelaw09_small.mono _
      | exact missiveref09_Params.mono _ _
      | exact missiveref09_Quote.mono _ _ _
      | exact missiveref09_SameParams.mono _ _ _
      | exact missiveref09_Token.mono _ _
      | exact LeO.none _
      | refine LeO.ite ?_ ?_
      | refine LeO.bind ?_ (fun _ => ?_)
theorem missivelaw09_HeaderParams.mono : ∀ a0 a1 a2 k, LeO (missivelaw09_HeaderParams.f k a0 a1 a2) (missivelaw09_HeaderParams.f (k + 1) a0 a1 a2) := by
  intro a0 a1 a2 k
  obtain ⟨ih0, ih1, ih2, ih3, ih4⟩ := missivelaw09_HeaderParams.mono_l k
  unfold missivelaw09_HeaderParams.f
  repeat' first
      | (with_reducible exact ih0 _ _ _ _ _)
      | (with_reducible exact ih1 _ _ _ _ _)
      | (with_reducible exact ih2 _ _ _ _ _ _ _ _)
      | (with_reducible exact ih3 _ _ _ _ _ _ _ _ _)
      | (with_reducible exact ih4 _ _ _ _ _ _ _ _ _)
      | (with_reducible exact missivelaw09_small.mono _)
      | (with_reducible exact missiveref09_Params.mono _ _)
      | (with_reducible exact missiveref09_Quote.mono _ _ _)
      | (with_reducible exact missiveref09_SameParams.mono _ _ _)
      | (with_reducible exact missiveref09_Token.mono _ _)
      | (with_reducible exact LeO.refl _)
      | (with_reducible exact LeO.none _)
      | (with_reducible refine LeO.ite ?_ ?_)
      | (with_reducible refine LeO.bind ?_ (fun _ => ?_))
      | exact ih0 _ _ _ _ _
      | exact ih1 _ _ _ _ _
      | exact ih2 _ _ _ _ _ _ _ _
      | exact ih3 _ _ _ _ _ _ _ _ _
      | exact ih4 _ _ _ _ _ _ _ _ _
      | exact missivelaw09_small.mono _
      | exact missiveref09_Params.mono _ _
      | exact missiveref09_Quote.mono _ _ _
      | exact missiveref09_SameParams.mono _ _ _
      | exact missiveref09_Token.mono _ _
      | exact LeO.none _
      | refine LeO.ite ?_ ?_
      | refine LeO.bind ?_ (fun _ => ?_)
def missivelaw09_HeaderParams.T14 : Bool × List (List Nat × List Nat) := (true, [([], []), ([], []), ([0, 1], [0, 1]), ([2], [2]), ([3], [3]), ([4], [4]), ([5], [5]), ([6, 5], [6]), ([7], [7]), ([7], [7]), ([8, 9, 7], [7, 8, 9]), ([10, 7], [7, 10]), ([11, 7], [7, 11]), ([12, 7, 7], [7, 12]), ([7], [7]), ([7], [7]), ([14, 15, 7], [7, 14, 15]), ([16, 7], [7, 16]), ([17, 7], [7, 17]), ([13, 18, 7], [7, 13, 18]), ([7, 19], [7, 19])])
def missivelaw09_HeaderParams.B14 : List Nat := [0, 0, 3, 7, 15, 31, 63, 127, 255, 255, 1023, 2047, 4095, 8191, 255, 255, 49407, 114943, 246015, 524287, 1048575]
theorem missivelaw09_HeaderParams.tab14 : rtab .any (opsOf Tryz.f3 14) = missivelaw09_HeaderParams.T14 := by kernel_rfl
theorem missivelaw09_HeaderParams.bits14 : waitsOk missivelaw09_HeaderParams.T14.2 missivelaw09_HeaderParams.B14 = true := by kernel_rfl
def missivelaw09_HeaderParams.T19 : Bool × List (List Nat × List Nat) := (true, [([], []), ([], []), ([0, 1], [0, 1]), ([2], [2]), ([3], [3]), ([], []), ([], []), ([5, 6], [5, 6]), ([7], [7]), ([8], [8]), ([4, 9], [4, 9])])
def missivelaw09_HeaderParams.B19 : List Nat := [0, 0, 3, 7, 15, 0, 0, 96, 224, 480, 1023]
theorem missivelaw09_HeaderParams.tab19 : rtab .any (opsOf Tryz.f3 19) = missivelaw09_HeaderParams.T19 := by kernel_rfl
theorem missivelaw09_HeaderParams.bits19 : waitsOk missivelaw09_HeaderParams.T19.2 missivelaw09_HeaderParams.B19 = true := by kernel_rfl
set_option maxHeartbeats 8000000 in
set_option maxRecDepth 100000 in
theorem missivelaw09_HeaderParams.calls (k : Nat) (a0 : ByteArray) (a1 : ByteArray) (A2 : Option Addr) (c2 : Nat) (l2 : List (S25)) (r : Bool) (w : World) (hr2 : Kd.C k25 w A2 l2.length l2) (hc2 : l2.length ≤ c2) (h : missivelaw09_HeaderParams.f k a0 a1 l2 = some r) :
    Calls Tryz.prog 3 #[.string a0, .string a1, .slice A2 l2.length c2] w fun e w' => e = .returned (.bool r) ∧ Below w.heap.size w w' := by
  have HR2 := Aside0.mk hr2
  have HC2 := Aside0.mk hc2
  clear hr2 hc2
  have HB := Aside0.mk (Below.refl w.heap.size w)
  have H : ((missivelaw09_small.f k).bind fun t186 => (if (a0.size : Int) > 3000 then (missivelaw09_HeaderParams.j0 k a0 a1 l2 t186 true) else (if (a1.size : Int) > 300 then (missivelaw09_HeaderParams.j0 k a0 a1 l2 t186 true) else (missivelaw09_HeaderParams.j0 k a0 a1 l2 t186 (decide ((l2.length : Int) > 40)))))) = some r := h
  clear h
  replace H := Option.bind_eq_some_iff.mp H
  obtain ⟨t186, A40, H⟩ := H
  replace H : (if (a0.size : Int) > 3000 then (missivelaw09_HeaderParams.j0 k a0 a1 l2 t186 true) else (if (a1.size : Int) > 300 then (missivelaw09_HeaderParams.j0 k a0 a1 l2 t186 true) else (missivelaw09_HeaderParams.j0 k a0 a1 l2 t186 (decide ((l2.length : Int) > 40))))) = some r := H
  have A4 := Aside0.mk A40
  clear A40
  have HC5 := Aside0.mk H
  clear H
  go_enter Tryz.func3, Tryz.ntmps3
  go_upto_region 2 with (first | ((with_reducible refine gate_callee (f := 10) rfl ?_); refine goesL_ (some 15) rfl rfl Tryz.func10 (by kernel_rfl) rfl #[] rfl (by (try simp only [List.map_toArray, List.map_cons, List.map_nil]); first | done | rfl | (simp only [List.length_drop, List.length_take]; rfl)) ?_; (with_reducible refine (missivelaw09_small.calls k  t186 _ A4.out).mono ?_); rintro e w6 ⟨rfl, hb⟩; refine ⟨_, rfl, ?_⟩; have n0_ := Aside0.mk (below_step (by repeat (first | (with_reducible first | exact HB.out | apply below_alloc | apply pw_below_drewN | apply below_drew1) | exact HB.out)) hb); clear HB; have HB := n0_; clear n0_; (try clear hb); (try clear hb2); (try clear hk); (try clear hi)))
  (try simp only [Act.put, List.setIfInBounds_toArray, List.set_cons_zero, List.set_cons_succ])
  go_cut [28] (fun v28 wc => ∃ (kq : Nat) (x28_4 : Bool), v28 = .bool x28_4 ∧ Aside0 (missivelaw09_HeaderParams.j0 kq a0 a1 l2 t186 x28_4 = some r) ∧ Aside0 (kq ≤ k) ∧ Aside0 (Below w.heap.size w wc))
  case first =>
    have H := HC5.out
    clear HC5
    by_cases c7 : (a0.size : Int) > 3000
    · rw [if_pos c7] at H
      have c7b0 : decide (3000 < (a0.size : Int)) = true := decide_eq_true c7
      have c7b1 : decide (3000 < a0.size) = true := decide_eq_true (by omega)
      clear c7
      (first | rw [c7b0] | (simp only [i64_w, i32_w]; rw [c7b0]) | skip)
      have H' := Aside0.mk H
      clear H
      go_wp2
      go_meet
      case rel => exact ⟨_, (true), (by first | rfl | (simp; done) | (simp [*]; done)), H', ⟨by first | omega | exact Nat.le_refl _⟩, ⟨by repeat (first | (with_reducible first | exact HB.out | apply below_alloc | apply pw_below_drewN | apply below_drew1) | exact HB.out)⟩⟩
    · rw [if_neg c7] at H
      have c7b0 : decide (3000 < (a0.size : Int)) = false := decide_eq_false c7
      have c7b1 : decide (3000 < a0.size) = false := decide_eq_false (by omega)
      clear c7
      (first | rw [c7b0] | (simp only [i64_w, i32_w]; rw [c7b0]) | skip)
      by_cases c8 : (a1.size : Int) > 300
      · rw [if_pos c8] at H
        have c8b0 : decide (300 < (a1.size : Int)) = true := decide_eq_true c8
        have c8b1 : decide (300 < a1.size) = true := decide_eq_true (by omega)
        clear c8
        have H' := Aside0.mk H
        clear H
        go_wp2
        go_meet
        case rel => exact ⟨_, (true), (by first | rfl | (simp; done) | (simp [*]; done)), H', ⟨by first | omega | exact Nat.le_refl _⟩, ⟨by repeat (first | (with_reducible first | exact HB.out | apply below_alloc | apply pw_below_drewN | apply below_drew1) | exact HB.out)⟩⟩
      · rw [if_neg c8] at H
        have c8b0 : decide (300 < (a1.size : Int)) = false := decide_eq_false c8
        have c8b1 : decide (300 < a1.size) = false := decide_eq_false (by omega)
        clear c8
        have H' := Aside0.mk H
        clear H
        go_wp2
        go_meet
        case rel => exact ⟨_, (decide ((l2.length : Int) > 40)), (by first | rfl | (simp; done) | (simp [*]; done)), H', ⟨by first | omega | exact Nat.le_refl _⟩, ⟨by repeat (first | (with_reducible first | exact HB.out | apply below_alloc | apply pw_below_drewN | apply below_drew1) | exact HB.out)⟩⟩
  case rest =>
    clear HC5
    try clear c1
    try clear c2
    try clear p2
    try clear c3
    try clear c7
    try clear c7b0
    try clear c7b1
    try clear c8
    try clear c8b0
    try clear c8b1
    obtain ⟨kq, x28_4, rfl, HA, HJ4, HB⟩ := hcut
    cases kq with
    | zero => exact absurd HA.out (by simp [missivelaw09_HeaderParams.j0])
    | succ kj4 =>
      have H := HA.out
      clear HA
      simp only [missivelaw09_HeaderParams.j0] at H
      by_cases c9 : x28_4 = true
      · subst c9
        have H1 : (some t186) = some r := by rw [if_pos rfl] at H; exact H
        clear H
        have H := H1
        clear H1
        obtain rfl := Option.some.inj H
        go_wp2
        go_ret
        exact ⟨by first | rfl | (simp [errW_none, errW_some]; done) | (simp [errW_none, errW_some]; exact isEmpty_nbne _) | (simp [errW_none, errW_some]; exact isEmpty_bne _) | (simp [errW_none, errW_some] <;> rfl) | (simp [*, errW_none, errW_some] <;> rfl), by repeat (first | (with_reducible first | exact HB.out | apply below_alloc | apply pw_below_drewN | apply below_drew1) | exact HB.out)⟩
      · replace c9 := Bool.eq_false_iff.mpr c9
        subst c9
        have H1 : (missivelaw09_HeaderParams.l0 kj4 a0 a1 l2 t186 0) = some r := by rw [if_neg (show ¬ (false = true) by decide)] at H; exact H
        clear H
        have H := H1
        clear H1
        have H' := Aside0.mk H
        clear H
        go_wp2
        go_loopg [8] kj4 (fun kq v8 w' => ∃ (x8_2 : Int), v8 = .int .i64 x8_2 ∧ Aside0 (missivelaw09_HeaderParams.l0 kq a0 a1 l2 t186 x8_2 = some r) ∧ Aside0 (kq ≤ kj4) ∧ Aside0 (Below w.heap.size w w'))
        case atStart => exact ⟨(0), (by first | rfl | (simp; done) | (simp [*]; done)), H', ⟨Nat.le_refl _⟩, ⟨by repeat (first | (with_reducible first | exact HB.out | apply below_alloc | apply pw_below_drewN | apply below_drew1) | exact HB.out)⟩⟩
        case round =>
          clear H'
          try clear c1
          try clear c2
          try clear p2
          try clear c3
          try clear c7
          try clear c7b0
          try clear c7b1
          try clear c8
          try clear c8b0
          try clear c8b1
          try clear c9
          try clear p2
          obtain ⟨x8_2, rfl, HA, HK2, HB⟩ := hrel
          cases gk with
          | zero => exact absurd HA.out (by simp [missivelaw09_HeaderParams.l0])
          | succ k2 =>
            have H := HA.out
            clear HA
            simp only [missivelaw09_HeaderParams.l0] at H
            by_cases c10 : x8_2 < (l2.length : Int)
            · rw [if_pos c10] at H
              have c10b0 : decide (x8_2 < (l2.length : Int)) = true := decide_eq_true c10
              clear c10
              by_cases c11 : 0 ≤ x8_2
              · rw [if_pos c11] at H
                have c11b0 : decide (0 ≤ x8_2) = true := decide_eq_true c11
                clear c11
                by_cases c12 : (((rd_T25 l2 x8_2).f0).size : Int) > 300
                · rw [if_pos c12] at H
                  have c12b0 : decide (300 < (((rd_T25 l2 x8_2).f0).size : Int)) = true := decide_eq_true c12
                  have c12b1 : decide (300 < ((rd_T25 l2 x8_2).f0).size) = true := decide_eq_true (by omega)
                  clear c12
                  obtain rfl := Option.some.inj H
                  have p187 : 0 ≤ (x8_2 : Int) := of_decide_eq_true (by first | (with_reducible assumption) | assumption)
                  have q187 : x8_2 < (l2.length : Int) := of_decide_eq_true (by first | (with_reducible assumption) | assumption)
                  obtain ⟨ad187, e187, hx187_0, hx187_1⟩ := at_T25 HR2.out x8_2 p187 q187
                  cases e187
                  replace hx187_0 := (HB.out.cell (World.block_lt_of_cell? w _ hx187_0)).trans hx187_0
                  replace hx187_1 := (HB.out.cell (World.block_lt_of_cell? w _ hx187_1)).trans hx187_1
                  replace p187 := eq_true p187
                  replace q187 := eq_true q187
                  go_wp2
                  go_ret
                  exact ⟨by first | rfl | (simp [errW_none, errW_some]; done) | (simp [errW_none, errW_some]; exact isEmpty_nbne _) | (simp [errW_none, errW_some]; exact isEmpty_bne _) | (simp [errW_none, errW_some] <;> rfl) | (simp [*, errW_none, errW_some] <;> rfl), by repeat (first | (with_reducible first | exact HB.out | apply below_alloc | apply pw_below_drewN | apply below_drew1) | exact HB.out)⟩
                · rw [if_neg c12] at H
                  have c12b0 : decide (300 < (((rd_T25 l2 x8_2).f0).size : Int)) = false := decide_eq_false c12
                  have c12b1 : decide (300 < ((rd_T25 l2 x8_2).f0).size) = false := decide_eq_false (by omega)
                  clear c12
                  by_cases c13 : (((rd_T25 l2 x8_2).f1).size : Int) > 300
                  · rw [if_pos c13] at H
                    have c13b0 : decide (300 < (((rd_T25 l2 x8_2).f1).size : Int)) = true := decide_eq_true c13
                    have c13b1 : decide (300 < ((rd_T25 l2 x8_2).f1).size) = true := decide_eq_true (by omega)
                    clear c13
                    obtain rfl := Option.some.inj H
                    have p187 : 0 ≤ (x8_2 : Int) := of_decide_eq_true (by first | (with_reducible assumption) | assumption)
                    have q187 : x8_2 < (l2.length : Int) := of_decide_eq_true (by first | (with_reducible assumption) | assumption)
                    obtain ⟨ad187, e187, hx187_0, hx187_1⟩ := at_T25 HR2.out x8_2 p187 q187
                    cases e187
                    replace hx187_0 := (HB.out.cell (World.block_lt_of_cell? w _ hx187_0)).trans hx187_0
                    replace hx187_1 := (HB.out.cell (World.block_lt_of_cell? w _ hx187_1)).trans hx187_1
                    replace p187 := eq_true p187
                    replace q187 := eq_true q187
                    have p188 : 0 ≤ (x8_2 : Int) := of_decide_eq_true (by first | (with_reducible assumption) | assumption)
                    have q188 : x8_2 < (l2.length : Int) := of_decide_eq_true (by first | (with_reducible assumption) | assumption)
                    obtain ⟨ad188, e188, hx188_0, hx188_1⟩ := at_T25 HR2.out x8_2 p188 q188
                    obtain rfl : ad187 = ad188 := (by injection e188)
                    replace hx188_0 := (HB.out.cell (World.block_lt_of_cell? w _ hx188_0)).trans hx188_0
                    replace hx188_1 := (HB.out.cell (World.block_lt_of_cell? w _ hx188_1)).trans hx188_1
                    replace p188 := eq_true p188
                    replace q188 := eq_true q188
                    go_wp2
                    go_ret
                    exact ⟨by first | rfl | (simp [errW_none, errW_some]; done) | (simp [errW_none, errW_some]; exact isEmpty_nbne _) | (simp [errW_none, errW_some]; exact isEmpty_bne _) | (simp [errW_none, errW_some] <;> rfl) | (simp [*, errW_none, errW_some] <;> rfl), by repeat (first | (with_reducible first | exact HB.out | apply below_alloc | apply pw_below_drewN | apply below_drew1) | exact HB.out)⟩
                  · rw [if_neg c13] at H
                    have c13b0 : decide (300 < (((rd_T25 l2 x8_2).f1).size : Int)) = false := decide_eq_false c13
                    have c13b1 : decide (300 < ((rd_T25 l2 x8_2).f1).size) = false := decide_eq_false (by omega)
                    clear c13
                    have H' := Aside0.mk H
                    clear H
                    have p187 : 0 ≤ (x8_2 : Int) := of_decide_eq_true (by first | (with_reducible assumption) | assumption)
                    have q187 : x8_2 < (l2.length : Int) := of_decide_eq_true (by first | (with_reducible assumption) | assumption)
                    obtain ⟨ad187, e187, hx187_0, hx187_1⟩ := at_T25 HR2.out x8_2 p187 q187
                    cases e187
                    replace hx187_0 := (HB.out.cell (World.block_lt_of_cell? w _ hx187_0)).trans hx187_0
                    replace hx187_1 := (HB.out.cell (World.block_lt_of_cell? w _ hx187_1)).trans hx187_1
                    replace p187 := eq_true p187
                    replace q187 := eq_true q187
                    have p188 : 0 ≤ (x8_2 : Int) := of_decide_eq_true (by first | (with_reducible assumption) | assumption)
                    have q188 : x8_2 < (l2.length : Int) := of_decide_eq_true (by first | (with_reducible assumption) | assumption)
                    obtain ⟨ad188, e188, hx188_0, hx188_1⟩ := at_T25 HR2.out x8_2 p188 q188
                    obtain rfl : ad187 = ad188 := (by injection e188)
                    replace hx188_0 := (HB.out.cell (World.block_lt_of_cell? w _ hx188_0)).trans hx188_0
                    replace hx188_1 := (HB.out.cell (World.block_lt_of_cell? w _ hx188_1)).trans hx188_1
                    replace p188 := eq_true p188
                    replace q188 := eq_true q188
                    go_wp2
                    go_roundg k2
                    case measure => have := HJ4.out; have := HK2.out; omega
                    case rel => exact ⟨(wrap64 (x8_2 + 1)), (by first | rfl | (simp; done) | (simp [*]; done)), H', ⟨by have := HJ4.out; have := HK2.out; omega⟩, ⟨by repeat (first | (with_reducible first | exact HB.out | apply below_alloc | apply pw_below_drewN | apply below_drew1) | exact HB.out)⟩⟩
              · rw [if_neg c11] at H
                exact absurd H (by simp)
            · rw [if_neg c10] at H
              have c10b0 : decide (x8_2 < (l2.length : Int)) = false := decide_eq_false c10
              clear c10
              replace H := Option.bind_eq_some_iff.mp H
              obtain ⟨⟨t189, t190⟩, A140, H⟩ := H
              replace H : ((missiveref09_Params.f k2 a0).bind fun bt193 => (missivelaw09_HeaderParams.l1 k2 a1 l2 t186 t189 t190 bt193.1 bt193.2 0)) = some r := H
              have A14 := Aside0.mk A140
              clear A140
              replace H := Option.bind_eq_some_iff.mp H
              obtain ⟨⟨t193, t194⟩, A150, H⟩ := H
              replace H : (missivelaw09_HeaderParams.l1 k2 a1 l2 t186 t189 t190 t193 t194 0) = some r := H
              have A15 := Aside0.mk A150
              clear A150
              have H' := Aside0.mk H
              clear H
              go_wp2_with (first | ((with_reducible refine gate_callee (f := 11) rfl ?_); refine goesL_ (some 55) rfl rfl Tryz.func11 (by kernel_rfl) rfl #[.string a0] rfl (by (try simp only [List.map_toArray, List.map_cons, List.map_nil]); first | done | rfl | (simp only [List.length_drop, List.length_take]; rfl)) ?_; (with_reducible refine (header_Params.calls a0 t189 t190 _ A14.out).mono ?_); rintro e w16 ⟨v191, rfl, ho0, hb⟩; refine ⟨_, rfl, ?_⟩; have n0_ := Aside0.mk (Kd.R_lower ho0 (below_size (by repeat (first | (with_reducible first | exact HB.out | apply below_alloc | apply pw_below_drewN | apply below_drew1) | exact HB.out)))); have n1_ := Aside0.mk (below_step (by repeat (first | (with_reducible first | exact HB.out | apply below_alloc | apply pw_below_drewN | apply below_drew1) | exact HB.out)) hb); clear HB; have HO192 := n0_; have HB := n1_; clear n0_ n1_; (try clear hb); (try clear hb2); (try clear hk); (try clear hi); (try clear ho0)) | ((with_reducible refine gate_callee (f := 12) rfl ?_); refine goesL_ (some 60) rfl rfl Tryz.func12 (by kernel_rfl) rfl #[.string a0] rfl (by (try simp only [List.map_toArray, List.map_cons, List.map_nil]); first | done | rfl | (simp only [List.length_drop, List.length_take]; rfl)) ?_; (with_reducible refine (missiveref09_Params.calls k2 a0 t193 t194 _ A15.out).mono ?_); rintro e w17 ⟨v195, rfl, ho0, hb⟩; refine ⟨_, rfl, ?_⟩; have n0_ := Aside0.mk (Kd.R_elder' (by (with_reducible repeat (first | apply Kd.R_alloc | apply Kd.R_drewN | apply Kd.R_drew)); exact HO192.out) (Kd.R_base ho0) hb); have n1_ := Aside0.mk (Kd.R_lower (Kd.R_new' ho0 (Kd.R_lt (by (with_reducible repeat (first | apply Kd.R_alloc | apply Kd.R_drewN | apply Kd.R_drew)); exact HO192.out))) (below_size (by repeat (first | (with_reducible first | exact HB.out | apply below_alloc | apply pw_below_drewN | apply below_drew1) | exact HB.out)))); have n2_ := Aside0.mk (below_step (by repeat (first | (with_reducible first | exact HB.out | apply below_alloc | apply pw_below_drewN | apply below_drew1) | exact HB.out)) hb); clear HO192; clear HB; have HO192 := n0_; have HO196 := n1_; have HB := n2_; clear n0_ n1_ n2_; (try clear hb); (try clear hb2); (try clear hk); (try clear hi); (try clear ho0)))
              go_loopg [13] k2 (fun kq v13 w' => ∃ (x13_3 : Int), v13 = .int .i64 x13_3 ∧ Aside0 (missivelaw09_HeaderParams.l1 kq a1 l2 t186 t189 t190 t193 t194 x13_3 = some r) ∧ Aside0 (kq ≤ k2) ∧ Aside0 (Kd.R k25 25 w' w.heap.size (fun k_ => some k_ ≠ (v195 : Value).ownBlock) v191 t190) ∧ Aside0 (Kd.R k25 25 w' w.heap.size (fun k_ => some k_ ≠ (v191 : Value).ownBlock) v195 t194) ∧ Aside0 (Below w.heap.size w w'))
              case atStart => exact ⟨(0), (by first | rfl | (simp; done) | (simp [*]; done)), H', ⟨Nat.le_refl _⟩, ⟨by (with_reducible repeat (first | apply Kd.R_alloc | apply Kd.R_drewN | apply Kd.R_drew)); exact Kd.R_mono HO192.out (fun _ hk => hk.2)⟩, ⟨by (with_reducible repeat (first | apply Kd.R_alloc | apply Kd.R_drewN | apply Kd.R_drew)); exact Kd.R_mono HO196.out (fun _ hk => hk.2)⟩, ⟨by repeat (first | (with_reducible first | exact HB.out | apply below_alloc | apply pw_below_drewN | apply below_drew1) | exact HB.out)⟩⟩
              case round =>
                clear H'
                try clear c1
                try clear p1
                try clear q1
                try clear hx1
                try clear c2
                try clear p2
                try clear c3
                try clear p6
                try clear c7
                try clear c7b0
                try clear c7b1
                try clear c8
                try clear c8b0
                try clear c8b1
                try clear c9
                try clear c10
                try clear c10b0
                try clear c11
                try clear c11b0
                try clear c12
                try clear c12b0
                try clear c12b1
                try clear c13
                try clear c13b0
                try clear c13b1
                try clear hx187_0
                try clear hx187_1
                try clear hx188_0
                try clear hx188_1
                try clear p187
                try clear p188
                try clear p2
                try clear q187
                try clear q188
                obtain ⟨x13_3, rfl, HA, HK3, HO_10, HO_12, HB⟩ := hrel
                cases gk with
                | zero => exact absurd HA.out (by simp [missivelaw09_HeaderParams.l1])
                | succ k3 =>
                  have H := HA.out
                  clear HA
                  simp only [missivelaw09_HeaderParams.l1] at H
                  by_cases c18 : x13_3 < (t190.length : Int)
                  · rw [if_pos c18] at H
                    have c18b0 : decide (x13_3 < (t190.length : Int)) = true := decide_eq_true c18
                    clear c18
                    have HC19 := Aside0.mk H
                    clear H
                    obtain ⟨Ao20, co20, eo20⟩ := Kd.R_slice HO_10.out
                    subst eo20
                    go_upto_region 14 with (fail)
                    go_cut [89] (fun v89 wc => ∃ (kq : Nat) (x89_18 : Bool), v89 = .bool x89_18 ∧ Aside0 (missivelaw09_HeaderParams.j3 kq a1 l2 t186 t189 t190 t193 t194 x13_3 x89_18 = some r) ∧ Aside0 (kq ≤ k3) ∧ Aside0 (Kd.R k25 25 wc w.heap.size (fun k_ => some k_ ≠ (v195 : Value).ownBlock) (.slice Ao20 t190.length co20) t190) ∧ Aside0 (Kd.R k25 25 wc w.heap.size (fun k_ => some k_ ≠ ((.slice Ao20 t190.length co20) : Value).ownBlock) v195 t194) ∧ Aside0 (Below w.heap.size w wc))
                    case first =>
                      have H := HC19.out
                      clear HC19
                      by_cases c21 : 0 ≤ x13_3
                      · rw [if_pos c21] at H
                        have c21b0 : decide (0 ≤ x13_3) = true := decide_eq_true c21
                        clear c21
                        (first | rw [c21b0] | (simp only [i64_w, i32_w]; rw [c21b0]) | skip)
                        replace H := Option.bind_eq_some_iff.mp H
                        obtain ⟨t201, A220, H⟩ := H
                        replace H : (if t201 = true then ((text_Lower.f ((rd_T25 t190 x13_3).f0)).bind fun t203 => (missivelaw09_HeaderParams.j3 k3 a1 l2 t186 t189 t190 t193 t194 x13_3 (t203.toList != ((rd_T25 t190 x13_3).f0).toList))) else (missivelaw09_HeaderParams.j3 k3 a1 l2 t186 t189 t190 t193 t194 x13_3 true)) = some r := H
                        have A22 := Aside0.mk A220
                        clear A220
                        by_cases c23 : t201 = true
                        · subst c23
                          have H1 : ((text_Lower.f ((rd_T25 t190 x13_3).f0)).bind fun t203 => (missivelaw09_HeaderParams.j3 k3 a1 l2 t186 t189 t190 t193 t194 x13_3 (t203.toList != ((rd_T25 t190 x13_3).f0).toList))) = some r := by rw [if_pos rfl] at H; exact H
                          clear H
                          have H := H1
                          clear H1
                          replace H := Option.bind_eq_some_iff.mp H
                          obtain ⟨t203, A240, H⟩ := H
                          replace H : (missivelaw09_HeaderParams.j3 k3 a1 l2 t186 t189 t190 t193 t194 x13_3 (t203.toList != ((rd_T25 t190 x13_3).f0).toList)) = some r := H
                          have A24 := Aside0.mk A240
                          clear A240
                          have H' := Aside0.mk H
                          clear H
                          try go_wp2
                          have n0_ := Aside0.mk (Kd.R_drew HO_10.out)
                          have n1_ := Aside0.mk (Kd.R_drew HO_12.out)
                          have n2_ := Aside0.mk (below_drew1 HB.out)
                          clear HO_10
                          clear HO_12
                          clear HB
                          have HO_10 := n0_
                          have HO_12 := n1_
                          have HB := n2_
                          clear n0_ n1_ n2_
                          have p200 : 0 ≤ (x13_3 : Int) := of_decide_eq_true (by first | (with_reducible assumption) | assumption)
                          have q200 : x13_3 < (t190.length : Int) := of_decide_eq_true (by first | (with_reducible assumption) | assumption)
                          obtain ⟨ad200, e200, hx200_0, hx200_1⟩ := at_T25 (Kd.R_reads' HO_10.out).2.2 x13_3 p200 q200
                          cases e200
                          replace p200 := eq_true p200
                          replace q200 := eq_true q200
                          have p202 : 0 ≤ (x13_3 : Int) := of_decide_eq_true (by first | (with_reducible assumption) | assumption)
                          have q202 : x13_3 < (t190.length : Int) := of_decide_eq_true (by first | (with_reducible assumption) | assumption)
                          obtain ⟨ad202, e202, hx202_0, hx202_1⟩ := at_T25 (Kd.R_reads' HO_10.out).2.2 x13_3 p202 q202
                          obtain rfl : ad200 = ad202 := (by injection e202)
                          replace p202 := eq_true p202
                          replace q202 := eq_true q202
                          have p204 : 0 ≤ (x13_3 : Int) := of_decide_eq_true (by first | (with_reducible assumption) | assumption)
                          have q204 : x13_3 < (t190.length : Int) := of_decide_eq_true (by first | (with_reducible assumption) | assumption)
                          obtain ⟨ad204, e204, hx204_0, hx204_1⟩ := at_T25 (Kd.R_reads' HO_10.out).2.2 x13_3 p204 q204
                          obtain rfl : ad200 = ad204 := (by injection e204)
                          replace p204 := eq_true p204
                          replace q204 := eq_true q204
                          refine start_ (n := 21) (S := fun w' => w'.cell? (ad200.add ((x13_3).toNat * 2)) = some (.string ((rd_T25 t190 x13_3).f0)) ∧ w'.cell? ⟨(ad200.add ((x13_3).toNat * 2)).block, (ad200.add ((x13_3).toNat * 2)).off + 1, none⟩ = some (.string ((rd_T25 t190 x13_3).f1)) ∧ w'.cell? (ad200.add ((x13_3).toNat * 2)) = some (.string ((rd_T25 t190 x13_3).f0)) ∧ w'.cell? ⟨(ad200.add ((x13_3).toNat * 2)).block, (ad200.add ((x13_3).toNat * 2)).off + 1, none⟩ = some (.string ((rd_T25 t190 x13_3).f1)) ∧ w'.cell? (ad200.add ((x13_3).toNat * 2)) = some (.string ((rd_T25 t190 x13_3).f0)) ∧ w'.cell? ⟨(ad200.add ((x13_3).toNat * 2)).block, (ad200.add ((x13_3).toNat * 2)).off + 1, none⟩ = some (.string ((rd_T25 t190 x13_3).f1))) (ds := []) #[false, false, false, false, false, false, false, false, false, false, false, false, false, false, false, false, false, false, false, false, false] (by kernel_rfl) rfl rfl ⟨hx200_0, hx200_1, hx202_0, hx202_1, hx204_0, hx204_1⟩ (fun hHeld => ?_); refine with_tabW missivelaw09_HeaderParams.tab14 missivelaw09_HeaderParams.bits14 (fun HT_ HW_ => ?_)
                          generalize wr.drew = w25 at HO_10 HO_12 HB hx200_0 hx200_1 hx202_0 hx202_1 hx204_0 hx204_1 hHeld ⊢
                          refine pure_ (i := 0) (N := some 69) (v := ?_) (a' := ?_) #[true, false, false, false, false, false, false, false, false, false, false, false, false, false, false, false, false, false, false, false, false] rfl rfl (any_of HT_.out (by kernel_rfl)) (fun _ _ _ h => h) (Or.inl ⟨by rfl, ?_⟩) ?_ ?_
                          rotate_left
                          · intro w'
                            go_simp
                            with_reducible rfl
                          rotate_left
                          · simp only [Act.put, List.setIfInBounds_toArray, List.set_cons_zero, List.set_cons_succ, i64_w, i32_w]
                            rfl
                          refine pure_ (i := 1) (N := some 70) (v := ?_) (a' := ?_) #[true, true, false, false, false, false, false, false, false, false, false, false, false, false, false, false, false, false, false, false, false] rfl rfl (any_of HT_.out (by kernel_rfl)) (fun _ _ _ h => h) (Or.inl ⟨by rfl, ?_⟩) ?_ ?_
                          rotate_left
                          · intro w'
                            go_simp
                            with_reducible rfl
                          rotate_left
                          · simp only [Act.put, List.setIfInBounds_toArray, List.set_cons_zero, List.set_cons_succ, i64_w, i32_w]
                            rfl
                          refine pure_ (i := 2) (N := some 71) (v := ?_) (a' := ?_) #[true, true, true, false, false, false, false, false, false, false, false, false, false, false, false, false, false, false, false, false, false] rfl rfl (any_of HT_.out (by kernel_rfl)) (fun _ _ _ h => h) (Or.inl ⟨by rfl, ?_⟩) ?_ ?_
                          rotate_left
                          · intro w'
                            go_simp
                            with_reducible rfl
                          rotate_left
                          · simp only [Act.put, List.setIfInBounds_toArray, List.set_cons_zero, List.set_cons_succ, i64_w, i32_w]
                            rfl
                          refine pure_ (i := 3) (N := some 72) (v := ?_) (a' := ?_) #[true, true, true, true, false, false, false, false, false, false, false, false, false, false, false, false, false, false, false, false, false] rfl rfl (any_of HT_.out (by kernel_rfl)) (fun _ _ _ h => h) (Or.inl ⟨by rfl, ?_⟩) ?_ ?_
                          rotate_left
                          · intro w'
                            go_simp
                            with_reducible rfl
                          rotate_left
                          · simp only [Act.put, List.setIfInBounds_toArray, List.set_cons_zero, List.set_cons_succ, i64_w, i32_w]
                            rfl
                          refine take_ (i := 4) (N := some 73) (v := ?_) (a' := ?_) #[true, true, true, true, true, false, false, false, false, false, false, false, false, false, false, false, false, false, false, false, false] rfl rfl (take_ofW HT_.out HW_.out (by kernel_rfl)) (fun _ _ _ h => h) (Or.inl ⟨by rfl, ?_⟩) hHeld ?_ ?_
                          rotate_left
                          · rintro w' ⟨s0, s1, s2, s3, s4, s5⟩
                            go_simp
                            with_reducible rfl
                          rotate_left
                          · simp only [Act.put, List.setIfInBounds_toArray, List.set_cons_zero, List.set_cons_succ, i64_w, i32_w]
                            rfl
                          refine one_ (i := 5) (N := some 74) #[true, true, true, true, true, true, false, false, false, false, false, false, false, false, false, false, false, false, false, false, false] rfl rfl (one_of HT_.out (by kernel_rfl)) (by decide) (fun K hK => ?_)
                          refine goes_ Tryz.func13 (by kernel_rfl) rfl #[.string ((rd_T25 t190 x13_3).f0)] (by rfl) rfl rfl (by (try simp only [List.map_toArray, List.map_cons, List.map_nil]); first | done | rfl | (simp only [List.length_drop, List.length_take]; rfl)) ?_
                          with_reducible refine (missiveref09_Token.calls k3 ((rd_T25 t190 x13_3).f0) true _ A22.out).mono ?_
                          rintro e w' ⟨rfl, ⟨nd, rfl⟩⟩
                          refine ⟨_, rfl, ?_⟩
                          refine hK.out _ _ ⟨hHeld.1, hHeld.2.1, hHeld.2.2.1, hHeld.2.2.2.1, hHeld.2.2.2.2.1, hHeld.2.2.2.2.2⟩ (fun hHeld => ?_)
                          clear hK K
                          refine norm_ (a' := ?_) ?_ ?_
                          rotate_left
                          · show Act.put _ (some 74) _ = _
                            simp only [Act.put, List.setIfInBounds_toArray, List.set_cons_zero, List.set_cons_succ, i64_w, i32_w]
                            rfl
                          refine pure_ (i := 6) (N := some 75) (v := ?_) (a' := ?_) #[true, true, true, true, true, true, true, false, false, false, false, false, false, false, false, false, false, false, false, false, false] rfl rfl (any_of HT_.out (by kernel_rfl)) (fun _ _ _ h => h) (Or.inl ⟨by rfl, ?_⟩) ?_ ?_
                          rotate_left
                          · intro w'
                            go_simp
                            with_reducible rfl
                          rotate_left
                          · simp only [Act.put, List.setIfInBounds_toArray, List.set_cons_zero, List.set_cons_succ, i64_w, i32_w]
                            rfl
                          refine pure_ (i := 7) (N := some 76) (v := ?_) (a' := ?_) #[true, true, true, true, true, true, true, true, false, false, false, false, false, false, false, false, false, false, false, false, false] rfl rfl (any_of HT_.out (by kernel_rfl)) (fun _ _ _ h => h) (Or.inl ⟨by rfl, ?_⟩) ?_ ?_
                          rotate_left
                          · intro w'
                            go_simp
                            with_reducible rfl
                          rotate_left
                          · simp only [Act.put, List.setIfInBounds_toArray, List.set_cons_zero, List.set_cons_succ, i64_w, i32_w]
                            rfl
                          refine pure_ (i := 8) (N := some 77) (v := ?_) (a' := ?_) #[true, true, true, true, true, true, true, true, true, false, false, false, false, false, false, false, false, false, false, false, false] rfl rfl (any_of HT_.out (by kernel_rfl)) (fun _ _ _ h => h) (Or.inl ⟨by rfl, ?_⟩) ?_ ?_
                          rotate_left
                          · intro w'
                            go_simp
                            with_reducible rfl
                          rotate_left
                          · simp only [Act.put, List.setIfInBounds_toArray, List.set_cons_zero, List.set_cons_succ, i64_w, i32_w]
                            rfl
                          refine pure_ (i := 9) (N := some 78) (v := ?_) (a' := ?_) #[true, true, true, true, true, true, true, true, true, true, false, false, false, false, false, false, false, false, false, false, false] rfl rfl (any_of HT_.out (by kernel_rfl)) (fun _ _ _ h => h) (Or.inl ⟨by rfl, ?_⟩) ?_ ?_
                          rotate_left
                          · intro w'
                            go_simp
                            with_reducible rfl
                          rotate_left
                          · simp only [Act.put, List.setIfInBounds_toArray, List.set_cons_zero, List.set_cons_succ, i64_w, i32_w]
                            rfl
                          refine pure_ (i := 10) (N := some 79) (v := ?_) (a' := ?_) #[true, true, true, true, true, true, true, true, true, true, true, false, false, false, false, false, false, false, false, false, false] rfl rfl (any_of HT_.out (by kernel_rfl)) (fun _ _ _ h => h) (Or.inl ⟨by rfl, ?_⟩) ?_ ?_
                          rotate_left
                          · intro w'
                            go_simp
                            with_reducible rfl
                          rotate_left
                          · simp only [Act.put, List.setIfInBounds_toArray, List.set_cons_zero, List.set_cons_succ, i64_w, i32_w]
                            rfl
                          refine pure_ (i := 11) (N := some 80) (v := ?_) (a' := ?_) #[true, true, true, true, true, true, true, true, true, true, true, true, false, false, false, false, false, false, false, false, false] rfl rfl (any_of HT_.out (by kernel_rfl)) (fun _ _ _ h => h) (Or.inl ⟨by rfl, ?_⟩) ?_ ?_
                          rotate_left
                          · intro w'
                            go_simp
                            with_reducible rfl
                          rotate_left
                          · simp only [Act.put, List.setIfInBounds_toArray, List.set_cons_zero, List.set_cons_succ, i64_w, i32_w]
                            rfl
                          refine pure_ (i := 14) (N := some 83) (v := ?_) (a' := ?_) #[true, true, true, true, true, true, true, true, true, true, true, true, false, false, true, false, false, false, false, false, false] rfl rfl (any_of HT_.out (by kernel_rfl)) (fun _ _ _ h => h) (Or.inl ⟨by rfl, ?_⟩) ?_ ?_
                          rotate_left
                          · intro w'
                            go_simp
                            with_reducible rfl
                          rotate_left
                          · simp only [Act.put, List.setIfInBounds_toArray, List.set_cons_zero, List.set_cons_succ, i64_w, i32_w]
                            rfl
                          refine pure_ (i := 15) (N := some 84) (v := ?_) (a' := ?_) #[true, true, true, true, true, true, true, true, true, true, true, true, false, false, true, true, false, false, false, false, false] rfl rfl (any_of HT_.out (by kernel_rfl)) (fun _ _ _ h => h) (Or.inl ⟨by rfl, ?_⟩) ?_ ?_
                          rotate_left
                          · intro w'
                            go_simp
                            with_reducible rfl
                          rotate_left
                          · simp only [Act.put, List.setIfInBounds_toArray, List.set_cons_zero, List.set_cons_succ, i64_w, i32_w]
                            rfl
                          refine pure_ (i := 16) (N := some 85) (v := ?_) (a' := ?_) #[true, true, true, true, true, true, true, true, true, true, true, true, false, false, true, true, true, false, false, false, false] rfl rfl (any_of HT_.out (by kernel_rfl)) (fun _ _ _ h => h) (Or.inl ⟨by rfl, ?_⟩) ?_ ?_
                          rotate_left
                          · intro w'
                            go_simp
                            with_reducible rfl
                          rotate_left
                          · simp only [Act.put, List.setIfInBounds_toArray, List.set_cons_zero, List.set_cons_succ, i64_w, i32_w]
                            rfl
                          refine pure_ (i := 17) (N := some 86) (v := ?_) (a' := ?_) #[true, true, true, true, true, true, true, true, true, true, true, true, false, false, true, true, true, true, false, false, false] rfl rfl (any_of HT_.out (by kernel_rfl)) (fun _ _ _ h => h) (Or.inl ⟨by rfl, ?_⟩) ?_ ?_
                          rotate_left
                          · intro w'
                            go_simp
                            with_reducible rfl
                          rotate_left
                          · simp only [Act.put, List.setIfInBounds_toArray, List.set_cons_zero, List.set_cons_succ, i64_w, i32_w]
                            rfl
                          refine take_ (i := 12) (N := some 81) (v := ?_) (a' := ?_) #[true, true, true, true, true, true, true, true, true, true, true, true, true, false, true, true, true, true, false, false, false] rfl rfl (take_ofW HT_.out HW_.out (by kernel_rfl)) (fun _ _ _ h => h) (Or.inl ⟨by rfl, ?_⟩) hHeld ?_ ?_
                          rotate_left
                          · rintro w' ⟨s0, s1, s2, s3, s4, s5⟩
                            go_simp
                            with_reducible rfl
                          rotate_left
                          · simp only [Act.put, List.setIfInBounds_toArray, List.set_cons_zero, List.set_cons_succ, i64_w, i32_w]
                            rfl
                          refine take_ (i := 18) (N := some 87) (v := ?_) (a' := ?_) #[true, true, true, true, true, true, true, true, true, true, true, true, true, false, true, true, true, true, true, false, false] rfl rfl (take_ofW HT_.out HW_.out (by kernel_rfl)) (fun _ _ _ h => h) (Or.inl ⟨by rfl, ?_⟩) hHeld ?_ ?_
                          rotate_left
                          · rintro w' ⟨s0, s1, s2, s3, s4, s5⟩
                            go_simp
                            with_reducible rfl
                          rotate_left
                          · simp only [Act.put, List.setIfInBounds_toArray, List.set_cons_zero, List.set_cons_succ, i64_w, i32_w]
                            rfl
                          refine one_ (i := 13) (N := some 82) #[true, true, true, true, true, true, true, true, true, true, true, true, true, true, true, true, true, true, true, false, false] rfl rfl (one_of HT_.out (by kernel_rfl)) (by decide) (fun K hK => ?_)
                          refine goes_ Tryz.func14 (by kernel_rfl) rfl #[.string ((rd_T25 t190 x13_3).f0)] (by rfl) rfl rfl (by (try simp only [List.map_toArray, List.map_cons, List.map_nil]); first | done | rfl | (simp only [List.length_drop, List.length_take]; rfl)) ?_
                          with_reducible refine (text_Lower.calls ((rd_T25 t190 x13_3).f0) t203 _ A24.out).mono ?_
                          rintro e w26 ⟨rfl, hb⟩
                          have HS0_ := (hb.cell (World.block_lt_of_cell? _ _ (hHeld.1))).trans (hHeld.1)
                          have HS1_ := (hb.cell (World.block_lt_of_cell? _ _ (hHeld.2.1))).trans (hHeld.2.1)
                          have HS2_ := (hb.cell (World.block_lt_of_cell? _ _ (hHeld.2.2.1))).trans (hHeld.2.2.1)
                          have HS3_ := (hb.cell (World.block_lt_of_cell? _ _ (hHeld.2.2.2.1))).trans (hHeld.2.2.2.1)
                          have HS4_ := (hb.cell (World.block_lt_of_cell? _ _ (hHeld.2.2.2.2.1))).trans (hHeld.2.2.2.2.1)
                          have HS5_ := (hb.cell (World.block_lt_of_cell? _ _ (hHeld.2.2.2.2.2))).trans (hHeld.2.2.2.2.2)
                          refine ⟨_, rfl, ?_⟩
                          have n0_ := Aside0.mk (Kd.R_below (by (with_reducible repeat (first | apply Kd.R_alloc | apply Kd.R_drewN | apply Kd.R_drew)); exact HO_10.out) hb)
                          have n1_ := Aside0.mk (Kd.R_below (by (with_reducible repeat (first | apply Kd.R_alloc | apply Kd.R_drewN | apply Kd.R_drew)); exact HO_12.out) hb)
                          have n2_ := Aside0.mk (below_step (by repeat (first | (with_reducible first | exact HB.out | apply below_alloc | apply pw_below_drewN | apply below_drew1) | exact HB.out)) hb)
                          clear HO_10
                          clear HO_12
                          clear HB
                          have HO_10 := n0_
                          have HO_12 := n1_
                          have HB := n2_
                          clear n0_ n1_ n2_
                          (try clear hb)
                          (try clear hb2)
                          (try clear hk)
                          (try clear hi)
                          refine hK.out _ _ ⟨HS0_, HS1_, HS2_, HS3_, HS4_, HS5_⟩ (fun hHeld => ?_)
                          clear hK K
                          refine norm_ (a' := ?_) ?_ ?_
                          rotate_left
                          · show Act.put _ (some 82) _ = _
                            simp only [Act.put, List.setIfInBounds_toArray, List.set_cons_zero, List.set_cons_succ, i64_w, i32_w]
                            rfl
                          refine pure_ (i := 19) (N := some 88) (v := ?_) (a' := ?_) #[true, true, true, true, true, true, true, true, true, true, true, true, true, true, true, true, true, true, true, true, false] rfl rfl (any_of HT_.out (by kernel_rfl)) (fun _ _ _ h => h) (Or.inl ⟨by rfl, ?_⟩) ?_ ?_
                          rotate_left
                          · intro w'
                            go_simp
                            with_reducible rfl
                          rotate_left
                          · simp only [Act.put, List.setIfInBounds_toArray, List.set_cons_zero, List.set_cons_succ, i64_w, i32_w]
                            rfl
                          refine pure_ (i := 20) (N := some 89) (v := ?_) (a' := ?_) #[true, true, true, true, true, true, true, true, true, true, true, true, true, true, true, true, true, true, true, true, true] rfl rfl (any_of HT_.out (by kernel_rfl)) (fun _ _ _ h => h) (Or.inl ⟨by rfl, ?_⟩) ?_ ?_
                          rotate_left
                          · intro w'
                            go_simp
                            with_reducible rfl
                          rotate_left
                          · simp only [Act.put, List.setIfInBounds_toArray, List.set_cons_zero, List.set_cons_succ, i64_w, i32_w]
                            rfl
                          refine done_ (done_of HT_.out (by kernel_rfl)) ?_
                          try go_wp2
                          go_meet
                          case rel => exact ⟨_, ((t203.toList != ((rd_T25 t190 x13_3).f0).toList)), (by first | rfl | (simp; done) | (simp [*]; done)), H', ⟨by have := HJ4.out; have := HK2.out; have := HK3.out; first | omega | exact Nat.le_refl _⟩, ⟨by (with_reducible repeat (first | apply Kd.R_alloc | apply Kd.R_drewN | apply Kd.R_drew)); exact HO_10.out⟩, ⟨by (with_reducible repeat (first | apply Kd.R_alloc | apply Kd.R_drewN | apply Kd.R_drew)); exact HO_12.out⟩, ⟨by repeat (first | (with_reducible first | exact HB.out | apply below_alloc | apply pw_below_drewN | apply below_drew1) | exact HB.out)⟩⟩
                        · replace c23 := Bool.eq_false_iff.mpr c23
                          subst c23
                          have H1 : (missivelaw09_HeaderParams.j3 k3 a1 l2 t186 t189 t190 t193 t194 x13_3 true) = some r := by rw [if_neg (show ¬ (false = true) by decide)] at H; exact H
                          clear H
                          have H := H1
                          clear H1
                          have H' := Aside0.mk H
                          clear H
                          try go_wp2
                          have n0_ := Aside0.mk (Kd.R_drew HO_10.out)
                          have n1_ := Aside0.mk (Kd.R_drew HO_12.out)
                          have n2_ := Aside0.mk (below_drew1 HB.out)
                          clear HO_10
                          clear HO_12
                          clear HB
                          have HO_10 := n0_
                          have HO_12 := n1_
                          have HB := n2_
                          clear n0_ n1_ n2_
                          have p200 : 0 ≤ (x13_3 : Int) := of_decide_eq_true (by first | (with_reducible assumption) | assumption)
                          have q200 : x13_3 < (t190.length : Int) := of_decide_eq_true (by first | (with_reducible assumption) | assumption)
                          obtain ⟨ad200, e200, hx200_0, hx200_1⟩ := at_T25 (Kd.R_reads' HO_10.out).2.2 x13_3 p200 q200
                          cases e200
                          replace p200 := eq_true p200
                          replace q200 := eq_true q200
                          refine start_ (n := 21) (S := fun w' => w'.cell? (ad200.add ((x13_3).toNat * 2)) = some (.string ((rd_T25 t190 x13_3).f0)) ∧ w'.cell? ⟨(ad200.add ((x13_3).toNat * 2)).block, (ad200.add ((x13_3).toNat * 2)).off + 1, none⟩ = some (.string ((rd_T25 t190 x13_3).f1))) (ds := []) #[false, false, false, false, false, false, false, false, false, false, false, false, false, false, false, false, false, false, false, false, false] (by kernel_rfl) rfl rfl ⟨hx200_0, hx200_1⟩ (fun hHeld => ?_); refine with_tabW missivelaw09_HeaderParams.tab14 missivelaw09_HeaderParams.bits14 (fun HT_ HW_ => ?_)
                          generalize wr.drew = w27 at HO_10 HO_12 HB hx200_0 hx200_1 hHeld ⊢
                          refine pure_ (i := 0) (N := some 69) (v := ?_) (a' := ?_) #[true, false, false, false, false, false, false, false, false, false, false, false, false, false, false, false, false, false, false, false, false] rfl rfl (any_of HT_.out (by kernel_rfl)) (fun _ _ _ h => h) (Or.inl ⟨by rfl, ?_⟩) ?_ ?_
                          rotate_left
                          · intro w'
                            go_simp
                            with_reducible rfl
                          rotate_left
                          · simp only [Act.put, List.setIfInBounds_toArray, List.set_cons_zero, List.set_cons_succ, i64_w, i32_w]
                            rfl
                          refine pure_ (i := 1) (N := some 70) (v := ?_) (a' := ?_) #[true, true, false, false, false, false, false, false, false, false, false, false, false, false, false, false, false, false, false, false, false] rfl rfl (any_of HT_.out (by kernel_rfl)) (fun _ _ _ h => h) (Or.inl ⟨by rfl, ?_⟩) ?_ ?_
                          rotate_left
                          · intro w'
                            go_simp
                            with_reducible rfl
                          rotate_left
                          · simp only [Act.put, List.setIfInBounds_toArray, List.set_cons_zero, List.set_cons_succ, i64_w, i32_w]
                            rfl
                          refine pure_ (i := 2) (N := some 71) (v := ?_) (a' := ?_) #[true, true, true, false, false, false, false, false, false, false, false, false, false, false, false, false, false, false, false, false, false] rfl rfl (any_of HT_.out (by kernel_rfl)) (fun _ _ _ h => h) (Or.inl ⟨by rfl, ?_⟩) ?_ ?_
                          rotate_left
                          · intro w'
                            go_simp
                            with_reducible rfl
                          rotate_left
                          · simp only [Act.put, List.setIfInBounds_toArray, List.set_cons_zero, List.set_cons_succ, i64_w, i32_w]
                            rfl
                          refine pure_ (i := 3) (N := some 72) (v := ?_) (a' := ?_) #[true, true, true, true, false, false, false, false, false, false, false, false, false, false, false, false, false, false, false, false, false] rfl rfl (any_of HT_.out (by kernel_rfl)) (fun _ _ _ h => h) (Or.inl ⟨by rfl, ?_⟩) ?_ ?_
                          rotate_left
                          · intro w'
                            go_simp
                            with_reducible rfl
                          rotate_left
                          · simp only [Act.put, List.setIfInBounds_toArray, List.set_cons_zero, List.set_cons_succ, i64_w, i32_w]
                            rfl
                          refine take_ (i := 4) (N := some 73) (v := ?_) (a' := ?_) #[true, true, true, true, true, false, false, false, false, false, false, false, false, false, false, false, false, false, false, false, false] rfl rfl (take_ofW HT_.out HW_.out (by kernel_rfl)) (fun _ _ _ h => h) (Or.inl ⟨by rfl, ?_⟩) hHeld ?_ ?_
                          rotate_left
                          · rintro w' ⟨s0, s1⟩
                            go_simp
                            with_reducible rfl
                          rotate_left
                          · simp only [Act.put, List.setIfInBounds_toArray, List.set_cons_zero, List.set_cons_succ, i64_w, i32_w]
                            rfl
                          refine one_ (i := 5) (N := some 74) #[true, true, true, true, true, true, false, false, false, false, false, false, false, false, false, false, false, false, false, false, false] rfl rfl (one_of HT_.out (by kernel_rfl)) (by decide) (fun K hK => ?_)
                          refine goes_ Tryz.func13 (by kernel_rfl) rfl #[.string ((rd_T25 t190 x13_3).f0)] (by rfl) rfl rfl (by (try simp only [List.map_toArray, List.map_cons, List.map_nil]); first | done | rfl | (simp only [List.length_drop, List.length_take]; rfl)) ?_
                          with_reducible refine (missiveref09_Token.calls k3 ((rd_T25 t190 x13_3).f0) false _ A22.out).mono ?_
                          rintro e w' ⟨rfl, ⟨nd, rfl⟩⟩
                          refine ⟨_, rfl, ?_⟩
                          refine hK.out _ _ ⟨hHeld.1, hHeld.2⟩ (fun hHeld => ?_)
                          clear hK K
                          refine norm_ (a' := ?_) ?_ ?_
                          rotate_left
                          · show Act.put _ (some 74) _ = _
                            simp only [Act.put, List.setIfInBounds_toArray, List.set_cons_zero, List.set_cons_succ, i64_w, i32_w]
                            rfl
                          refine pure_ (i := 6) (N := some 75) (v := ?_) (a' := ?_) #[true, true, true, true, true, true, true, false, false, false, false, false, false, false, false, false, false, false, false, false, false] rfl rfl (any_of HT_.out (by kernel_rfl)) (fun _ _ _ h => h) (Or.inl ⟨by rfl, ?_⟩) ?_ ?_
                          rotate_left
                          · intro w'
                            go_simp
                            with_reducible rfl
                          rotate_left
                          · simp only [Act.put, List.setIfInBounds_toArray, List.set_cons_zero, List.set_cons_succ, i64_w, i32_w]
                            rfl
                          refine pure_ (i := 7) (N := some 76) (v := ?_) (a' := ?_) #[true, true, true, true, true, true, true, true, false, false, false, false, false, false, false, false, false, false, false, false, false] rfl rfl (any_of HT_.out (by kernel_rfl)) (fun _ _ _ h => h) (Or.inl ⟨by rfl, ?_⟩) ?_ ?_
                          rotate_left
                          · intro w'
                            go_simp
                            with_reducible rfl
                          rotate_left
                          · simp only [Act.put, List.setIfInBounds_toArray, List.set_cons_zero, List.set_cons_succ, i64_w, i32_w]
                            rfl
                          refine pure_ (i := 8) (N := some 77) (v := undef) (a' := ?_) #[true, true, true, true, true, true, true, true, true, false, false, false, false, false, false, false, false, false, false, false, false] rfl rfl (any_of HT_.out (by kernel_rfl)) (fun _ _ _ h => h) (Or.inr ⟨by rfl, rfl⟩) ?_ ?_
                          rotate_left
                          · simp only [Act.put, List.setIfInBounds_toArray, List.set_cons_zero, List.set_cons_succ, i64_w, i32_w]
                            rfl
                          refine pure_ (i := 9) (N := some 78) (v := undef) (a' := ?_) #[true, true, true, true, true, true, true, true, true, true, false, false, false, false, false, false, false, false, false, false, false] rfl rfl (any_of HT_.out (by kernel_rfl)) (fun _ _ _ h => h) (Or.inr ⟨by rfl, rfl⟩) ?_ ?_
                          rotate_left
                          · simp only [Act.put, List.setIfInBounds_toArray, List.set_cons_zero, List.set_cons_succ, i64_w, i32_w]
                            rfl
                          refine pure_ (i := 10) (N := some 79) (v := undef) (a' := ?_) #[true, true, true, true, true, true, true, true, true, true, true, false, false, false, false, false, false, false, false, false, false] rfl rfl (any_of HT_.out (by kernel_rfl)) (fun _ _ _ h => h) (Or.inr ⟨by rfl, rfl⟩) ?_ ?_
                          rotate_left
                          · simp only [Act.put, List.setIfInBounds_toArray, List.set_cons_zero, List.set_cons_succ, i64_w, i32_w]
                            rfl
                          refine pure_ (i := 11) (N := some 80) (v := undef) (a' := ?_) #[true, true, true, true, true, true, true, true, true, true, true, true, false, false, false, false, false, false, false, false, false] rfl rfl (any_of HT_.out (by kernel_rfl)) (fun _ _ _ h => h) (Or.inr ⟨by rfl, rfl⟩) ?_ ?_
                          rotate_left
                          · simp only [Act.put, List.setIfInBounds_toArray, List.set_cons_zero, List.set_cons_succ, i64_w, i32_w]
                            rfl
                          refine pure_ (i := 12) (N := some 81) (v := undef) (a' := ?_) #[true, true, true, true, true, true, true, true, true, true, true, true, true, false, false, false, false, false, false, false, false] rfl rfl (any_of HT_.out (by kernel_rfl)) (fun _ _ _ h => h) (Or.inr ⟨by rfl, rfl⟩) ?_ ?_
                          rotate_left
                          · simp only [Act.put, List.setIfInBounds_toArray, List.set_cons_zero, List.set_cons_succ, i64_w, i32_w]
                            rfl
                          refine pure_ (i := 13) (N := some 82) (v := undef) (a' := ?_) #[true, true, true, true, true, true, true, true, true, true, true, true, true, true, false, false, false, false, false, false, false] rfl rfl (any_of HT_.out (by kernel_rfl)) (fun _ _ _ h => h) (Or.inr ⟨by rfl, rfl⟩) ?_ ?_
                          rotate_left
                          · simp only [Act.put, List.setIfInBounds_toArray, List.set_cons_zero, List.set_cons_succ, i64_w, i32_w]
                            rfl
                          refine pure_ (i := 14) (N := some 83) (v := undef) (a' := ?_) #[true, true, true, true, true, true, true, true, true, true, true, true, true, true, true, false, false, false, false, false, false] rfl rfl (any_of HT_.out (by kernel_rfl)) (fun _ _ _ h => h) (Or.inr ⟨by rfl, rfl⟩) ?_ ?_
                          rotate_left
                          · simp only [Act.put, List.setIfInBounds_toArray, List.set_cons_zero, List.set_cons_succ, i64_w, i32_w]
                            rfl
                          refine pure_ (i := 15) (N := some 84) (v := undef) (a' := ?_) #[true, true, true, true, true, true, true, true, true, true, true, true, true, true, true, true, false, false, false, false, false] rfl rfl (any_of HT_.out (by kernel_rfl)) (fun _ _ _ h => h) (Or.inr ⟨by rfl, rfl⟩) ?_ ?_
                          rotate_left
                          · simp only [Act.put, List.setIfInBounds_toArray, List.set_cons_zero, List.set_cons_succ, i64_w, i32_w]
                            rfl
                          refine pure_ (i := 16) (N := some 85) (v := undef) (a' := ?_) #[true, true, true, true, true, true, true, true, true, true, true, true, true, true, true, true, true, false, false, false, false] rfl rfl (any_of HT_.out (by kernel_rfl)) (fun _ _ _ h => h) (Or.inr ⟨by rfl, rfl⟩) ?_ ?_
                          rotate_left
                          · simp only [Act.put, List.setIfInBounds_toArray, List.set_cons_zero, List.set_cons_succ, i64_w, i32_w]
                            rfl
                          refine pure_ (i := 17) (N := some 86) (v := undef) (a' := ?_) #[true, true, true, true, true, true, true, true, true, true, true, true, true, true, true, true, true, true, false, false, false] rfl rfl (any_of HT_.out (by kernel_rfl)) (fun _ _ _ h => h) (Or.inr ⟨by rfl, rfl⟩) ?_ ?_
                          rotate_left
                          · simp only [Act.put, List.setIfInBounds_toArray, List.set_cons_zero, List.set_cons_succ, i64_w, i32_w]
                            rfl
                          refine pure_ (i := 18) (N := some 87) (v := undef) (a' := ?_) #[true, true, true, true, true, true, true, true, true, true, true, true, true, true, true, true, true, true, true, false, false] rfl rfl (any_of HT_.out (by kernel_rfl)) (fun _ _ _ h => h) (Or.inr ⟨by rfl, rfl⟩) ?_ ?_
                          rotate_left
                          · simp only [Act.put, List.setIfInBounds_toArray, List.set_cons_zero, List.set_cons_succ, i64_w, i32_w]
                            rfl
                          refine pure_ (i := 19) (N := some 88) (v := undef) (a' := ?_) #[true, true, true, true, true, true, true, true, true, true, true, true, true, true, true, true, true, true, true, true, false] rfl rfl (any_of HT_.out (by kernel_rfl)) (fun _ _ _ h => h) (Or.inr ⟨by rfl, rfl⟩) ?_ ?_
                          rotate_left
                          · simp only [Act.put, List.setIfInBounds_toArray, List.set_cons_zero, List.set_cons_succ, i64_w, i32_w]
                            rfl
                          refine pure_ (i := 20) (N := some 89) (v := ?_) (a' := ?_) #[true, true, true, true, true, true, true, true, true, true, true, true, true, true, true, true, true, true, true, true, true] rfl rfl (any_of HT_.out (by kernel_rfl)) (fun _ _ _ h => h) (Or.inl ⟨by rfl, ?_⟩) ?_ ?_
                          rotate_left
                          · intro w'
                            go_simp
                            with_reducible rfl
                          rotate_left
                          · simp only [Act.put, List.setIfInBounds_toArray, List.set_cons_zero, List.set_cons_succ, i64_w, i32_w]
                            rfl
                          refine done_ (done_of HT_.out (by kernel_rfl)) ?_
                          try go_wp2
                          go_meet
                          case rel => exact ⟨_, (true), (by first | rfl | (simp; done) | (simp [*]; done)), H', ⟨by have := HJ4.out; have := HK2.out; have := HK3.out; first | omega | exact Nat.le_refl _⟩, ⟨by (with_reducible repeat (first | apply Kd.R_alloc | apply Kd.R_drewN | apply Kd.R_drew)); exact HO_10.out⟩, ⟨by (with_reducible repeat (first | apply Kd.R_alloc | apply Kd.R_drewN | apply Kd.R_drew)); exact HO_12.out⟩, ⟨by repeat (first | (with_reducible first | exact HB.out | apply below_alloc | apply pw_below_drewN | apply below_drew1) | exact HB.out)⟩⟩
                      · rw [if_neg c21] at H
                        exact absurd H (by simp)
                    case rest =>
                      clear HC19
                      try clear c1
                      try clear p1
                      try clear q1
                      try clear hx1
                      try clear c2
                      try clear p2
                      try clear q2
                      try clear hx2
                      try clear c3
                      try clear p6
                      try clear c7
                      try clear c7b0
                      try clear c7b1
                      try clear c8
                      try clear c8b0
                      try clear c8b1
                      try clear c9
                      try clear c10
                      try clear c10b0
                      try clear c11
                      try clear c11b0
                      try clear c12
                      try clear c12b0
                      try clear c12b1
                      try clear c13
                      try clear c13b0
                      try clear c13b1
                      try clear c14
                      try clear c18
                      try clear c18b0
                      try clear p18
                      try clear q18
                      try clear hx18
                      try clear p20
                      try clear q20
                      try clear hx20
                      try clear c21
                      try clear c21b0
                      try clear c23
                      try clear hx187_0
                      try clear hx187_1
                      try clear hx188_0
                      try clear hx188_1
                      try clear hx200_0
                      try clear hx200_1
                      try clear hx202_0
                      try clear hx202_1
                      try clear hx204_0
                      try clear hx204_1
                      try clear p1
                      try clear p187
                      try clear p188
                      try clear p2
                      try clear p200
                      try clear p202
                      try clear p204
                      try clear p6
                      try clear q1
                      try clear q187
                      try clear q188
                      try clear q200
                      try clear q202
                      try clear q204
                      obtain ⟨kq, x89_18, rfl, HA, HJ18, HO_10, HO_12, HB⟩ := hcut
                      cases kq with
                      | zero => exact absurd HA.out (by simp [missivelaw09_HeaderParams.j3])
                      | succ kj18 =>
                        have H := HA.out
                        clear HA
                        simp only [missivelaw09_HeaderParams.j3] at H
                        by_cases c28 : x89_18 = true
                        · subst c28
                          have H1 : (some false) = some r := by rw [if_pos rfl] at H; exact H
                          clear H
                          have H := H1
                          clear H1
                          obtain rfl := Option.some.inj H
                          go_wp2
                          go_ret
                          exact ⟨by first | rfl | (simp [errW_none, errW_some]; done) | (simp [errW_none, errW_some]; exact isEmpty_nbne _) | (simp [errW_none, errW_some]; exact isEmpty_bne _) | (simp [errW_none, errW_some] <;> rfl) | (simp [*, errW_none, errW_some] <;> rfl), by repeat (first | (with_reducible first | exact HB.out | apply below_alloc | apply pw_below_drewN | apply below_drew1) | exact HB.out)⟩
                        · replace c28 := Bool.eq_false_iff.mpr c28
                          subst c28
                          have H1 : (missivelaw09_HeaderParams.l2 kj18 a1 l2 t186 t189 t190 t193 t194 x13_3 0) = some r := by rw [if_neg (show ¬ (false = true) by decide)] at H; exact H
                          clear H
                          have H := H1
                          clear H1
                          have H' := Aside0.mk H
                          clear H
                          go_wp2
                          go_loopg [14] kj18 (fun kq v14 w' => ∃ (x14_5 : Int), v14 = .int .i64 x14_5 ∧ Aside0 (missivelaw09_HeaderParams.l2 kq a1 l2 t186 t189 t190 t193 t194 x13_3 x14_5 = some r) ∧ Aside0 (kq ≤ kj18) ∧ Aside0 (Kd.R k25 25 w' w.heap.size (fun k_ => some k_ ≠ (v195 : Value).ownBlock) (.slice Ao20 t190.length co20) t190) ∧ Aside0 (Kd.R k25 25 w' w.heap.size (fun k_ => some k_ ≠ ((.slice Ao20 t190.length co20) : Value).ownBlock) v195 t194) ∧ Aside0 (Below w.heap.size w w'))
                          case atStart => exact ⟨(0), (by first | rfl | (simp; done) | (simp [*]; done)), H', ⟨Nat.le_refl _⟩, ⟨by (with_reducible repeat (first | apply Kd.R_alloc | apply Kd.R_drewN | apply Kd.R_drew)); exact HO_10.out⟩, ⟨by (with_reducible repeat (first | apply Kd.R_alloc | apply Kd.R_drewN | apply Kd.R_drew)); exact HO_12.out⟩, ⟨by repeat (first | (with_reducible first | exact HB.out | apply below_alloc | apply pw_below_drewN | apply below_drew1) | exact HB.out)⟩⟩
                          case round =>
                            clear H'
                            try clear c1
                            try clear p1
                            try clear q1
                            try clear hx1
                            try clear c2
                            try clear p2
                            try clear q2
                            try clear hx2
                            try clear c3
                            try clear p6
                            try clear c7
                            try clear c7b0
                            try clear c7b1
                            try clear c8
                            try clear c8b0
                            try clear c8b1
                            try clear c9
                            try clear c10
                            try clear c10b0
                            try clear c11
                            try clear c11b0
                            try clear c12
                            try clear c12b0
                            try clear c12b1
                            try clear c13
                            try clear c13b0
                            try clear c13b1
                            try clear c14
                            try clear c18
                            try clear c18b0
                            try clear p18
                            try clear q18
                            try clear hx18
                            try clear p20
                            try clear q20
                            try clear hx20
                            try clear c21
                            try clear c21b0
                            try clear c23
                            try clear c28
                            try clear hx187_0
                            try clear hx187_1
                            try clear hx188_0
                            try clear hx188_1
                            try clear hx200_0
                            try clear hx200_1
                            try clear hx202_0
                            try clear hx202_1
                            try clear hx204_0
                            try clear hx204_1
                            try clear p1
                            try clear p18
                            try clear p187
                            try clear p188
                            try clear p2
                            try clear p20
                            try clear p200
                            try clear p202
                            try clear p204
                            try clear p6
                            try clear q1
                            try clear q18
                            try clear q187
                            try clear q188
                            try clear q2
                            try clear q20
                            try clear q200
                            try clear q202
                            try clear q204
                            obtain ⟨x14_5, rfl, HA, HK5, HO_10, HO_12, HB⟩ := hrel
                            cases gk with
                            | zero => exact absurd HA.out (by simp [missivelaw09_HeaderParams.l2])
                            | succ k5 =>
                              have H := HA.out
                              clear HA
                              simp only [missivelaw09_HeaderParams.l2] at H
                              by_cases c29 : x14_5 < x13_3
                              · rw [if_pos c29] at H
                                have c29b0 : decide (x14_5 < x13_3) = true := decide_eq_true c29
                                clear c29
                                by_cases c30 : 0 ≤ x14_5
                                · rw [if_pos c30] at H
                                  have c30b0 : decide (0 ≤ x14_5) = true := decide_eq_true c30
                                  clear c30
                                  by_cases c31 : x14_5 < (t190.length : Int)
                                  · rw [if_pos c31] at H
                                    have c31b0 : decide (x14_5 < (t190.length : Int)) = true := decide_eq_true c31
                                    clear c31
                                    by_cases c32 : 0 ≤ x13_3
                                    · rw [if_pos c32] at H
                                      have c32b0 : decide (0 ≤ x13_3) = true := decide_eq_true c32
                                      clear c32
                                      by_cases c33 : x13_3 < (t190.length : Int)
                                      · rw [if_pos c33] at H
                                        have c33b0 : decide (x13_3 < (t190.length : Int)) = true := decide_eq_true c33
                                        clear c33
                                        by_cases c34 : ((rd_T25 t190 x14_5).f0).toList = ((rd_T25 t190 x13_3).f0).toList
                                        · rw [if_pos c34] at H
                                          have c34b0 : (((rd_T25 t190 x14_5).f0).toList == ((rd_T25 t190 x13_3).f0).toList) = true := beq_iff_eq.mpr c34
                                          have c34b1 : (((rd_T25 t190 x14_5).f0).toList != ((rd_T25 t190 x13_3).f0).toList) = false := bne_eq_false_iff_eq.mpr c34
                                          clear c34
                                          obtain rfl := Option.some.inj H
                                          try go_wp2
                                          have n0_ := Aside0.mk (Kd.R_drew HO_10.out)
                                          have n1_ := Aside0.mk (Kd.R_drew HO_12.out)
                                          have n2_ := Aside0.mk (below_drew1 HB.out)
                                          clear HO_10
                                          clear HO_12
                                          clear HB
                                          have HO_10 := n0_
                                          have HO_12 := n1_
                                          have HB := n2_
                                          clear n0_ n1_ n2_
                                          have p205 : 0 ≤ (x14_5 : Int) := of_decide_eq_true (by first | (with_reducible assumption) | assumption)
                                          have q205 : x14_5 < (t190.length : Int) := of_decide_eq_true (by first | (with_reducible assumption) | assumption)
                                          obtain ⟨ad205, e205, hx205_0, hx205_1⟩ := at_T25 (Kd.R_reads' HO_10.out).2.2 x14_5 p205 q205
                                          cases e205
                                          replace p205 := eq_true p205
                                          replace q205 := eq_true q205
                                          have p206 : 0 ≤ (x13_3 : Int) := of_decide_eq_true (by first | (with_reducible assumption) | assumption)
                                          have q206 : x13_3 < (t190.length : Int) := of_decide_eq_true (by first | (with_reducible assumption) | assumption)
                                          obtain ⟨ad206, e206, hx206_0, hx206_1⟩ := at_T25 (Kd.R_reads' HO_10.out).2.2 x13_3 p206 q206
                                          obtain rfl : ad205 = ad206 := (by injection e206)
                                          replace p206 := eq_true p206
                                          replace q206 := eq_true q206
                                          refine start_ (n := 11) (S := fun w' => w'.cell? (ad205.add ((x14_5).toNat * 2)) = some (.string ((rd_T25 t190 x14_5).f0)) ∧ w'.cell? ⟨(ad205.add ((x14_5).toNat * 2)).block, (ad205.add ((x14_5).toNat * 2)).off + 1, none⟩ = some (.string ((rd_T25 t190 x14_5).f1)) ∧ w'.cell? (ad205.add ((x13_3).toNat * 2)) = some (.string ((rd_T25 t190 x13_3).f0)) ∧ w'.cell? ⟨(ad205.add ((x13_3).toNat * 2)).block, (ad205.add ((x13_3).toNat * 2)).off + 1, none⟩ = some (.string ((rd_T25 t190 x13_3).f1))) (ds := []) #[false, false, false, false, false, false, false, false, false, false, false] (by kernel_rfl) rfl rfl ⟨hx205_0, hx205_1, hx206_0, hx206_1⟩ (fun hHeld => ?_); refine with_tabW missivelaw09_HeaderParams.tab19 missivelaw09_HeaderParams.bits19 (fun HT_ HW_ => ?_)
                                          generalize wr.drew = w35 at HO_10 HO_12 HB hx205_0 hx205_1 hx206_0 hx206_1 hHeld ⊢
                                          refine pure_ (i := 0) (N := some 95) (v := ?_) (a' := ?_) #[true, false, false, false, false, false, false, false, false, false, false] rfl rfl (any_of HT_.out (by kernel_rfl)) (fun _ _ _ h => h) (Or.inl ⟨by rfl, ?_⟩) ?_ ?_
                                          rotate_left
                                          · intro w'
                                            go_simp
                                            with_reducible rfl
                                          rotate_left
                                          · simp only [Act.put, List.setIfInBounds_toArray, List.set_cons_zero, List.set_cons_succ, i64_w, i32_w]
                                            rfl
                                          refine pure_ (i := 1) (N := some 96) (v := ?_) (a' := ?_) #[true, true, false, false, false, false, false, false, false, false, false] rfl rfl (any_of HT_.out (by kernel_rfl)) (fun _ _ _ h => h) (Or.inl ⟨by rfl, ?_⟩) ?_ ?_
                                          rotate_left
                                          · intro w'
                                            go_simp
                                            with_reducible rfl
                                          rotate_left
                                          · simp only [Act.put, List.setIfInBounds_toArray, List.set_cons_zero, List.set_cons_succ, i64_w, i32_w]
                                            rfl
                                          refine pure_ (i := 2) (N := some 97) (v := ?_) (a' := ?_) #[true, true, true, false, false, false, false, false, false, false, false] rfl rfl (any_of HT_.out (by kernel_rfl)) (fun _ _ _ h => h) (Or.inl ⟨by rfl, ?_⟩) ?_ ?_
                                          rotate_left
                                          · intro w'
                                            go_simp
                                            with_reducible rfl
                                          rotate_left
                                          · simp only [Act.put, List.setIfInBounds_toArray, List.set_cons_zero, List.set_cons_succ, i64_w, i32_w]
                                            rfl
                                          refine pure_ (i := 3) (N := some 98) (v := ?_) (a' := ?_) #[true, true, true, true, false, false, false, false, false, false, false] rfl rfl (any_of HT_.out (by kernel_rfl)) (fun _ _ _ h => h) (Or.inl ⟨by rfl, ?_⟩) ?_ ?_
                                          rotate_left
                                          · intro w'
                                            go_simp
                                            with_reducible rfl
                                          rotate_left
                                          · simp only [Act.put, List.setIfInBounds_toArray, List.set_cons_zero, List.set_cons_succ, i64_w, i32_w]
                                            rfl
                                          refine pure_ (i := 5) (N := some 100) (v := ?_) (a' := ?_) #[true, true, true, true, false, true, false, false, false, false, false] rfl rfl (any_of HT_.out (by kernel_rfl)) (fun _ _ _ h => h) (Or.inl ⟨by rfl, ?_⟩) ?_ ?_
                                          rotate_left
                                          · intro w'
                                            go_simp
                                            with_reducible rfl
                                          rotate_left
                                          · simp only [Act.put, List.setIfInBounds_toArray, List.set_cons_zero, List.set_cons_succ, i64_w, i32_w]
                                            rfl
                                          refine pure_ (i := 6) (N := some 101) (v := ?_) (a' := ?_) #[true, true, true, true, false, true, true, false, false, false, false] rfl rfl (any_of HT_.out (by kernel_rfl)) (fun _ _ _ h => h) (Or.inl ⟨by rfl, ?_⟩) ?_ ?_
                                          rotate_left
                                          · intro w'
                                            go_simp
                                            with_reducible rfl
                                          rotate_left
                                          · simp only [Act.put, List.setIfInBounds_toArray, List.set_cons_zero, List.set_cons_succ, i64_w, i32_w]
                                            rfl
                                          refine pure_ (i := 7) (N := some 102) (v := ?_) (a' := ?_) #[true, true, true, true, false, true, true, true, false, false, false] rfl rfl (any_of HT_.out (by kernel_rfl)) (fun _ _ _ h => h) (Or.inl ⟨by rfl, ?_⟩) ?_ ?_
                                          rotate_left
                                          · intro w'
                                            go_simp
                                            with_reducible rfl
                                          rotate_left
                                          · simp only [Act.put, List.setIfInBounds_toArray, List.set_cons_zero, List.set_cons_succ, i64_w, i32_w]
                                            rfl
                                          refine pure_ (i := 8) (N := some 103) (v := ?_) (a' := ?_) #[true, true, true, true, false, true, true, true, true, false, false] rfl rfl (any_of HT_.out (by kernel_rfl)) (fun _ _ _ h => h) (Or.inl ⟨by rfl, ?_⟩) ?_ ?_
                                          rotate_left
                                          · intro w'
                                            go_simp
                                            with_reducible rfl
                                          rotate_left
                                          · simp only [Act.put, List.setIfInBounds_toArray, List.set_cons_zero, List.set_cons_succ, i64_w, i32_w]
                                            rfl
                                          refine take_ (i := 4) (N := some 99) (v := ?_) (a' := ?_) #[true, true, true, true, true, true, true, true, true, false, false] rfl rfl (take_ofW HT_.out HW_.out (by kernel_rfl)) (fun _ _ _ h => h) (Or.inl ⟨by rfl, ?_⟩) hHeld ?_ ?_
                                          rotate_left
                                          · rintro w' ⟨s0, s1, s2, s3⟩
                                            go_simp
                                            with_reducible rfl
                                          rotate_left
                                          · simp only [Act.put, List.setIfInBounds_toArray, List.set_cons_zero, List.set_cons_succ, i64_w, i32_w]
                                            rfl
                                          refine take_ (i := 9) (N := some 104) (v := ?_) (a' := ?_) #[true, true, true, true, true, true, true, true, true, true, false] rfl rfl (take_ofW HT_.out HW_.out (by kernel_rfl)) (fun _ _ _ h => h) (Or.inl ⟨by rfl, ?_⟩) hHeld ?_ ?_
                                          rotate_left
                                          · rintro w' ⟨s0, s1, s2, s3⟩
                                            go_simp
                                            with_reducible rfl
                                          rotate_left
                                          · simp only [Act.put, List.setIfInBounds_toArray, List.set_cons_zero, List.set_cons_succ, i64_w, i32_w]
                                            rfl
                                          refine pure_ (i := 10) (N := some 105) (v := ?_) (a' := ?_) #[true, true, true, true, true, true, true, true, true, true, true] rfl rfl (any_of HT_.out (by kernel_rfl)) (fun _ _ _ h => h) (Or.inl ⟨by rfl, ?_⟩) ?_ ?_
                                          rotate_left
                                          · intro w'
                                            go_simp
                                            with_reducible rfl
                                          rotate_left
                                          · simp only [Act.put, List.setIfInBounds_toArray, List.set_cons_zero, List.set_cons_succ, i64_w, i32_w]
                                            rfl
                                          refine done_ (done_of HT_.out (by kernel_rfl)) ?_
                                          try go_wp2
                                          go_ret
                                          exact ⟨by first | rfl | (simp [errW_none, errW_some]; done) | (simp [errW_none, errW_some]; exact isEmpty_nbne _) | (simp [errW_none, errW_some]; exact isEmpty_bne _) | (simp [errW_none, errW_some] <;> rfl) | (simp [*, errW_none, errW_some] <;> rfl), by repeat (first | (with_reducible first | exact HB.out | apply below_alloc | apply pw_below_drewN | apply below_drew1) | exact HB.out)⟩
                                        · rw [if_neg c34] at H
                                          have c34b0 : (((rd_T25 t190 x14_5).f0).toList == ((rd_T25 t190 x13_3).f0).toList) = false := beq_eq_false_iff_ne.mpr c34
                                          have c34b1 : (((rd_T25 t190 x14_5).f0).toList != ((rd_T25 t190 x13_3).f0).toList) = true := bne_iff_ne.mpr c34
                                          have H' := Aside0.mk H
                                          clear H
                                          try go_wp2
                                          have n0_ := Aside0.mk (Kd.R_drew HO_10.out)
                                          have n1_ := Aside0.mk (Kd.R_drew HO_12.out)
                                          have n2_ := Aside0.mk (below_drew1 HB.out)
                                          clear HO_10
                                          clear HO_12
                                          clear HB
                                          have HO_10 := n0_
                                          have HO_12 := n1_
                                          have HB := n2_
                                          clear n0_ n1_ n2_
                                          have p205 : 0 ≤ (x14_5 : Int) := of_decide_eq_true (by first | (with_reducible assumption) | assumption)
                                          have q205 : x14_5 < (t190.length : Int) := of_decide_eq_true (by first | (with_reducible assumption) | assumption)
                                          obtain ⟨ad205, e205, hx205_0, hx205_1⟩ := at_T25 (Kd.R_reads' HO_10.out).2.2 x14_5 p205 q205
                                          cases e205
                                          replace p205 := eq_true p205
                                          replace q205 := eq_true q205
                                          have p206 : 0 ≤ (x13_3 : Int) := of_decide_eq_true (by first | (with_reducible assumption) | assumption)
                                          have q206 : x13_3 < (t190.length : Int) := of_decide_eq_true (by first | (with_reducible assumption) | assumption)
                                          obtain ⟨ad206, e206, hx206_0, hx206_1⟩ := at_T25 (Kd.R_reads' HO_10.out).2.2 x13_3 p206 q206
                                          obtain rfl : ad205 = ad206 := (by injection e206)
                                          replace p206 := eq_true p206
                                          replace q206 := eq_true q206
                                          refine start_ (n := 11) (S := fun w' => w'.cell? (ad205.add ((x14_5).toNat * 2)) = some (.string ((rd_T25 t190 x14_5).f0)) ∧ w'.cell? ⟨(ad205.add ((x14_5).toNat * 2)).block, (ad205.add ((x14_5).toNat * 2)).off + 1, none⟩ = some (.string ((rd_T25 t190 x14_5).f1)) ∧ w'.cell? (ad205.add ((x13_3).toNat * 2)) = some (.string ((rd_T25 t190 x13_3).f0)) ∧ w'.cell? ⟨(ad205.add ((x13_3).toNat * 2)).block, (ad205.add ((x13_3).toNat * 2)).off + 1, none⟩ = some (.string ((rd_T25 t190 x13_3).f1))) (ds := []) #[false, false, false, false, false, false, false, false, false, false, false] (by kernel_rfl) rfl rfl ⟨hx205_0, hx205_1, hx206_0, hx206_1⟩ (fun hHeld => ?_); refine with_tabW missivelaw09_HeaderParams.tab19 missivelaw09_HeaderParams.bits19 (fun HT_ HW_ => ?_)
                                          generalize wr.drew = w36 at HO_10 HO_12 HB hx205_0 hx205_1 hx206_0 hx206_1 hHeld ⊢
                                          refine pure_ (i := 0) (N := some 95) (v := ?_) (a' := ?_) #[true, false, false, false, false, false, false, false, false, false, false] rfl rfl (any_of HT_.out (by kernel_rfl)) (fun _ _ _ h => h) (Or.inl ⟨by rfl, ?_⟩) ?_ ?_
                                          rotate_left
                                          · intro w'
                                            go_simp
                                            with_reducible rfl
                                          rotate_left
                                          · simp only [Act.put, List.setIfInBounds_toArray, List.set_cons_zero, List.set_cons_succ, i64_w, i32_w]
                                            rfl
                                          refine pure_ (i := 1) (N := some 96) (v := ?_) (a' := ?_) #[true, true, false, false, false, false, false, false, false, false, false] rfl rfl (any_of HT_.out (by kernel_rfl)) (fun _ _ _ h => h) (Or.inl ⟨by rfl, ?_⟩) ?_ ?_
                                          rotate_left
                                          · intro w'
                                            go_simp
                                            with_reducible rfl
                                          rotate_left
                                          · simp only [Act.put, List.setIfInBounds_toArray, List.set_cons_zero, List.set_cons_succ, i64_w, i32_w]
                                            rfl
                                          refine pure_ (i := 2) (N := some 97) (v := ?_) (a' := ?_) #[true, true, true, false, false, false, false, false, false, false, false] rfl rfl (any_of HT_.out (by kernel_rfl)) (fun _ _ _ h => h) (Or.inl ⟨by rfl, ?_⟩) ?_ ?_
                                          rotate_left
                                          · intro w'
                                            go_simp
                                            with_reducible rfl
                                          rotate_left
                                          · simp only [Act.put, List.setIfInBounds_toArray, List.set_cons_zero, List.set_cons_succ, i64_w, i32_w]
                                            rfl
                                          refine pure_ (i := 3) (N := some 98) (v := ?_) (a' := ?_) #[true, true, true, true, false, false, false, false, false, false, false] rfl rfl (any_of HT_.out (by kernel_rfl)) (fun _ _ _ h => h) (Or.inl ⟨by rfl, ?_⟩) ?_ ?_
                                          rotate_left
                                          · intro w'
                                            go_simp
                                            with_reducible rfl
                                          rotate_left
                                          · simp only [Act.put, List.setIfInBounds_toArray, List.set_cons_zero, List.set_cons_succ, i64_w, i32_w]
                                            rfl
                                          refine pure_ (i := 5) (N := some 100) (v := ?_) (a' := ?_) #[true, true, true, true, false, true, false, false, false, false, false] rfl rfl (any_of HT_.out (by kernel_rfl)) (fun _ _ _ h => h) (Or.inl ⟨by rfl, ?_⟩) ?_ ?_
                                          rotate_left
                                          · intro w'
                                            go_simp
                                            with_reducible rfl
                                          rotate_left
                                          · simp only [Act.put, List.setIfInBounds_toArray, List.set_cons_zero, List.set_cons_succ, i64_w, i32_w]
                                            rfl
                                          refine pure_ (i := 6) (N := some 101) (v := ?_) (a' := ?_) #[true, true, true, true, false, true, true, false, false, false, false] rfl rfl (any_of HT_.out (by kernel_rfl)) (fun _ _ _ h => h) (Or.inl ⟨by rfl, ?_⟩) ?_ ?_
                                          rotate_left
                                          · intro w'
                                            go_simp
                                            with_reducible rfl
                                          rotate_left
                                          · simp only [Act.put, List.setIfInBounds_toArray, List.set_cons_zero, List.set_cons_succ, i64_w, i32_w]
                                            rfl
                                          refine pure_ (i := 7) (N := some 102) (v := ?_) (a' := ?_) #[true, true, true, true, false, true, true, true, false, false, false] rfl rfl (any_of HT_.out (by kernel_rfl)) (fun _ _ _ h => h) (Or.inl ⟨by rfl, ?_⟩) ?_ ?_
                                          rotate_left
                                          · intro w'
                                            go_simp
                                            with_reducible rfl
                                          rotate_left
                                          · simp only [Act.put, List.setIfInBounds_toArray, List.set_cons_zero, List.set_cons_succ, i64_w, i32_w]
                                            rfl
                                          refine pure_ (i := 8) (N := some 103) (v := ?_) (a' := ?_) #[true, true, true, true, false, true, true, true, true, false, false] rfl rfl (any_of HT_.out (by kernel_rfl)) (fun _ _ _ h => h) (Or.inl ⟨by rfl, ?_⟩) ?_ ?_
                                          rotate_left
                                          · intro w'
                                            go_simp
                                            with_reducible rfl
                                          rotate_left
                                          · simp only [Act.put, List.setIfInBounds_toArray, List.set_cons_zero, List.set_cons_succ, i64_w, i32_w]
                                            rfl
                                          refine take_ (i := 4) (N := some 99) (v := ?_) (a' := ?_) #[true, true, true, true, true, true, true, true, true, false, false] rfl rfl (take_ofW HT_.out HW_.out (by kernel_rfl)) (fun _ _ _ h => h) (Or.inl ⟨by rfl, ?_⟩) hHeld ?_ ?_
                                          rotate_left
                                          · rintro w' ⟨s0, s1, s2, s3⟩
                                            go_simp
                                            with_reducible rfl
                                          rotate_left
                                          · simp only [Act.put, List.setIfInBounds_toArray, List.set_cons_zero, List.set_cons_succ, i64_w, i32_w]
                                            rfl
                                          refine take_ (i := 9) (N := some 104) (v := ?_) (a' := ?_) #[true, true, true, true, true, true, true, true, true, true, false] rfl rfl (take_ofW HT_.out HW_.out (by kernel_rfl)) (fun _ _ _ h => h) (Or.inl ⟨by rfl, ?_⟩) hHeld ?_ ?_
                                          rotate_left
                                          · rintro w' ⟨s0, s1, s2, s3⟩
                                            go_simp
                                            with_reducible rfl
                                          rotate_left
                                          · simp only [Act.put, List.setIfInBounds_toArray, List.set_cons_zero, List.set_cons_succ, i64_w, i32_w]
                                            rfl
                                          refine pure_ (i := 10) (N := some 105) (v := ?_) (a' := ?_) #[true, true, true, true, true, true, true, true, true, true, true] rfl rfl (any_of HT_.out (by kernel_rfl)) (fun _ _ _ h => h) (Or.inl ⟨by rfl, ?_⟩) ?_ ?_
                                          rotate_left
                                          · intro w'
                                            go_simp
                                            with_reducible rfl
                                          rotate_left
                                          · simp only [Act.put, List.setIfInBounds_toArray, List.set_cons_zero, List.set_cons_succ, i64_w, i32_w]
                                            rfl
                                          refine done_ (done_of HT_.out (by kernel_rfl)) ?_
                                          try go_wp2
                                          go_roundg k5
                                          case measure => have := HJ4.out; have := HK2.out; have := HK3.out; have := HJ18.out; have := HK5.out; omega
                                          case rel => exact ⟨(wrap64 (x14_5 + 1)), (by first | rfl | (simp; done) | (simp [*]; done)), H', ⟨by have := HJ4.out; have := HK2.out; have := HK3.out; have := HJ18.out; have := HK5.out; omega⟩, ⟨by (with_reducible repeat (first | apply Kd.R_alloc | apply Kd.R_drewN | apply Kd.R_drew)); exact HO_10.out⟩, ⟨by (with_reducible repeat (first | apply Kd.R_alloc | apply Kd.R_drewN | apply Kd.R_drew)); exact HO_12.out⟩, ⟨by repeat (first | (with_reducible first | exact HB.out | apply below_alloc | apply pw_below_drewN | apply below_drew1) | exact HB.out)⟩⟩
                                      · rw [if_neg c33] at H
                                        exact absurd H (by simp)
                                    · rw [if_neg c32] at H
                                      exact absurd H (by simp)
                                  · rw [if_neg c31] at H
                                    exact absurd H (by simp)
                                · rw [if_neg c30] at H
                                  exact absurd H (by simp)
                              · rw [if_neg c29] at H
                                have c29b0 : decide (x14_5 < x13_3) = false := decide_eq_false c29
                                clear c29
                                have H' := Aside0.mk H
                                clear H
                                go_wp2
                                go_roundg k5
                                case measure => have := HJ4.out; have := HK2.out; have := HK3.out; have := HJ18.out; have := HK5.out; omega
                                case rel => exact ⟨(wrap64 (x13_3 + 1)), (by first | rfl | (simp; done) | (simp [*]; done)), H', ⟨by have := HJ4.out; have := HK2.out; have := HK3.out; have := HJ18.out; have := HK5.out; omega⟩, ⟨by (with_reducible repeat (first | apply Kd.R_alloc | apply Kd.R_drewN | apply Kd.R_drew)); exact HO_10.out⟩, ⟨by (with_reducible repeat (first | apply Kd.R_alloc | apply Kd.R_drewN | apply Kd.R_drew)); exact HO_12.out⟩, ⟨by repeat (first | (with_reducible first | exact HB.out | apply below_alloc | apply pw_below_drewN | apply below_drew1) | exact HB.out)⟩⟩
                  · rw [if_neg c18] at H
                    have c18b0 : decide (x13_3 < (t190.length : Int)) = false := decide_eq_false c18
                    clear c18
                    by_cases c37 : t186 = true
                    · subst c37
                      have H1 : (if t189.toList = t193.toList then ((missiveref09_SameParams.f k3 t190 t194).bind fun t197 => (if t197 = true then ((header_Quote.f a1 l2).bind fun t198 => ((missiveref09_Quote.f k3 a1 l2).bind fun t199 => (some (t198.toList == t199.toList)))) else (some false))) else (some false)) = some r := by rw [if_pos rfl] at H; exact H
                      clear H
                      have H := H1
                      clear H1
                      by_cases c38 : t189.toList = t193.toList
                      · rw [if_pos c38] at H
                        have c38b0 : (t189.toList == t193.toList) = true := beq_iff_eq.mpr c38
                        have c38b1 : (t189.toList != t193.toList) = false := bne_eq_false_iff_eq.mpr c38
                        clear c38
                        replace H := Option.bind_eq_some_iff.mp H
                        obtain ⟨t197, A390, H⟩ := H
                        replace H : (if t197 = true then ((header_Quote.f a1 l2).bind fun t198 => ((missiveref09_Quote.f k3 a1 l2).bind fun t199 => (some (t198.toList == t199.toList)))) else (some false)) = some r := H
                        have A39 := Aside0.mk A390
                        clear A390
                        by_cases c40 : t197 = true
                        · subst c40
                          have H1 : ((header_Quote.f a1 l2).bind fun t198 => ((missiveref09_Quote.f k3 a1 l2).bind fun t199 => (some (t198.toList == t199.toList)))) = some r := by rw [if_pos rfl] at H; exact H
                          clear H
                          have H := H1
                          clear H1
                          replace H := Option.bind_eq_some_iff.mp H
                          obtain ⟨t198, A410, H⟩ := H
                          replace H : ((missiveref09_Quote.f k3 a1 l2).bind fun t199 => (some (t198.toList == t199.toList))) = some r := H
                          have A41 := Aside0.mk A410
                          clear A410
                          replace H := Option.bind_eq_some_iff.mp H
                          obtain ⟨t199, A420, H⟩ := H
                          replace H : (some (t198.toList == t199.toList)) = some r := H
                          have A42 := Aside0.mk A420
                          clear A420
                          obtain rfl := Option.some.inj H
                          obtain ⟨Ao43, co43, eo43⟩ := Kd.R_slice HO_10.out
                          subst eo43
                          obtain ⟨Ao44, co44, eo44⟩ := Kd.R_slice HO_12.out
                          subst eo44
                          go_wp2_with (first | (go_at_call 15; (with_reducible refine (missiveref09_SameParams.calls k3 _ _ t190 _ _ t194 true _ ?side1 ?side2 ?side3 ?side4 A39.out).mono ?_); (case side1 => repeat (first | exact (Kd.R_reads' HO_10.out).2.2 | (with_reducible refine Kd.C_alloc ?_ _) | (with_reducible refine Kd.C_drewN ?_ _) | (with_reducible refine Kd.C_drew ?_))); (case side2 => exact (Kd.R_reads' HO_10.out).2.1); (case side3 => repeat (first | exact (Kd.R_reads' HO_12.out).2.2 | (with_reducible refine Kd.C_alloc ?_ _) | (with_reducible refine Kd.C_drewN ?_ _) | (with_reducible refine Kd.C_drew ?_))); (case side4 => exact (Kd.R_reads' HO_12.out).2.1); rintro e w' ⟨rfl, ⟨nd, rfl⟩⟩) | (go_at_call 16; (with_reducible refine (header_Quote.calls a1 _ _ l2 t198 _ ?side1 ?side2 A41.out).mono ?_); (case side1 => repeat (first | exact (Kd.C_below HR2.out (by repeat (first | (with_reducible first | exact HB.out | apply below_alloc | apply pw_below_drewN | apply below_drew1) | exact HB.out))) | (with_reducible refine Kd.C_alloc ?_ _) | (with_reducible refine Kd.C_drewN ?_ _) | (with_reducible refine Kd.C_drew ?_))); (case side2 => exact HC2.out); rintro e w45 ⟨rfl, hb⟩; have n0_ := Aside0.mk (Kd.R_below (by (with_reducible repeat (first | apply Kd.R_alloc | apply Kd.R_drewN | apply Kd.R_drew)); exact HO_10.out) hb); have n1_ := Aside0.mk (Kd.R_below (by (with_reducible repeat (first | apply Kd.R_alloc | apply Kd.R_drewN | apply Kd.R_drew)); exact HO_12.out) hb); have n2_ := Aside0.mk (below_step (by repeat (first | (with_reducible first | exact HB.out | apply below_alloc | apply pw_below_drewN | apply below_drew1) | exact HB.out)) hb); clear HO_10; clear HO_12; clear HB; have HO_10 := n0_; have HO_12 := n1_; have HB := n2_; clear n0_ n1_ n2_; (try clear hb); (try clear hb2); (try clear hk); (try clear hi)) | (go_at_call 17; (with_reducible refine (missiveref09_Quote.calls k3 a1 _ _ l2 t199 _ ?side1 ?side2 A42.out).mono ?_); (case side1 => repeat (first | exact (Kd.C_below HR2.out HB.out) | (with_reducible refine Kd.C_alloc ?_ _) | (with_reducible refine Kd.C_drewN ?_ _) | (with_reducible refine Kd.C_drew ?_))); (case side2 => exact HC2.out); rintro e w46 ⟨rfl, hb⟩; have n0_ := Aside0.mk (Kd.R_below (by (with_reducible repeat (first | apply Kd.R_alloc | apply Kd.R_drewN | apply Kd.R_drew)); exact HO_10.out) hb); have n1_ := Aside0.mk (Kd.R_below (by (with_reducible repeat (first | apply Kd.R_alloc | apply Kd.R_drewN | apply Kd.R_drew)); exact HO_12.out) hb); have n2_ := Aside0.mk (below_step (by repeat (first | (with_reducible first | exact HB.out | apply below_alloc | apply pw_below_drewN | apply below_drew1) | exact HB.out)) hb); clear HO_10; clear HO_12; clear HB; have HO_10 := n0_; have HO_12 := n1_; have HB := n2_; clear n0_ n1_ n2_; (try clear hb); (try clear hb2); (try clear hk); (try clear hi)))
                          go_ret
                          exact ⟨by first | rfl | (simp [errW_none, errW_some]; done) | (simp [errW_none, errW_some]; exact isEmpty_nbne _) | (simp [errW_none, errW_some]; exact isEmpty_bne _) | (simp [errW_none, errW_some] <;> rfl) | (simp [*, errW_none, errW_some] <;> rfl), by repeat (first | (with_reducible first | exact HB.out | apply below_alloc | apply pw_below_drewN | apply below_drew1) | exact HB.out)⟩
                        · replace c40 := Bool.eq_false_iff.mpr c40
                          subst c40
                          have H1 : (some false) = some r := by rw [if_neg (show ¬ (false = true) by decide)] at H; exact H
                          clear H
                          have H := H1
                          clear H1
                          obtain rfl := Option.some.inj H
                          obtain ⟨Ao47, co47, eo47⟩ := Kd.R_slice HO_10.out
                          subst eo47
                          obtain ⟨Ao48, co48, eo48⟩ := Kd.R_slice HO_12.out
                          subst eo48
                          go_wp2_with (first | (go_at_call 15; (with_reducible refine (missiveref09_SameParams.calls k3 _ _ t190 _ _ t194 false _ ?side1 ?side2 ?side3 ?side4 A39.out).mono ?_); (case side1 => repeat (first | exact (Kd.R_reads' HO_10.out).2.2 | (with_reducible refine Kd.C_alloc ?_ _) | (with_reducible refine Kd.C_drewN ?_ _) | (with_reducible refine Kd.C_drew ?_))); (case side2 => exact (Kd.R_reads' HO_10.out).2.1); (case side3 => repeat (first | exact (Kd.R_reads' HO_12.out).2.2 | (with_reducible refine Kd.C_alloc ?_ _) | (with_reducible refine Kd.C_drewN ?_ _) | (with_reducible refine Kd.C_drew ?_))); (case side4 => exact (Kd.R_reads' HO_12.out).2.1); rintro e w' ⟨rfl, ⟨nd, rfl⟩⟩))
                          go_ret
                          exact ⟨by first | rfl | (simp [errW_none, errW_some]; done) | (simp [errW_none, errW_some]; exact isEmpty_nbne _) | (simp [errW_none, errW_some]; exact isEmpty_bne _) | (simp [errW_none, errW_some] <;> rfl) | (simp [*, errW_none, errW_some] <;> rfl), by repeat (first | (with_reducible first | exact HB.out | apply below_alloc | apply pw_below_drewN | apply below_drew1) | exact HB.out)⟩
                      · rw [if_neg c38] at H
                        have c38b0 : (t189.toList == t193.toList) = false := beq_eq_false_iff_ne.mpr c38
                        have c38b1 : (t189.toList != t193.toList) = true := bne_iff_ne.mpr c38
                        obtain rfl := Option.some.inj H
                        obtain ⟨Ao49, co49, eo49⟩ := Kd.R_slice HO_10.out
                        subst eo49
                        go_wp2
                        go_ret
                        exact ⟨by first | rfl | (simp [errW_none, errW_some]; done) | (simp [errW_none, errW_some]; exact isEmpty_nbne _) | (simp [errW_none, errW_some]; exact isEmpty_bne _) | (simp [errW_none, errW_some] <;> rfl) | (simp [*, errW_none, errW_some] <;> rfl), by repeat (first | (with_reducible first | exact HB.out | apply below_alloc | apply pw_below_drewN | apply below_drew1) | exact HB.out)⟩
                    · replace c37 := Bool.eq_false_iff.mpr c37
                      subst c37
                      have H1 : (some false) = some r := by rw [if_neg (show ¬ (false = true) by decide)] at H; exact H
                      clear H
                      have H := H1
                      clear H1
                      obtain rfl := Option.some.inj H
                      obtain ⟨Ao50, co50, eo50⟩ := Kd.R_slice HO_10.out
                      subst eo50
                      go_wp2
                      go_ret
                      exact ⟨by first | rfl | (simp [errW_none, errW_some]; done) | (simp [errW_none, errW_some]; exact isEmpty_nbne _) | (simp [errW_none, errW_some]; exact isEmpty_bne _) | (simp [errW_none, errW_some] <;> rfl) | (simp [*, errW_none, errW_some] <;> rfl), by repeat (first | (with_reducible first | exact HB.out | apply below_alloc | apply pw_below_drewN | apply below_drew1) | exact HB.out)⟩
end Go.Proofs.YtieompfmhnpnaaaGreat.H
end
