/- The law HeaderFolds: whatever the input, it answers true, and each argument reads as it read. No condition. -/
import Derived.Test.YtieompfmhnpnaaaGreatKHf2
import Derived.Maps.OwnIn
import Derived.Maps.Views
import Derived.StringKeys
import Derived.Laws.EntriesVeiled
import Derived.Carry
import Derived.Deep.RegionHeld3
import Derived.Deep.SlicePairs
import Derived.SizedLaws
import Derived.ChangeArms
import Derived.Test.YtieompfmhnpnaaaGreatRows
import Derived.WalkKit
import Derived.ProofKit
import Derived.OpenShut
import Derived.ShutString
import Derived.ChangeOld
import Derived.Below
section
namespace Go.Proofs.YtieompfmhnpnaaaGreat.H
open Go.RowKit Go.Proofs.YtieompfmhnpnaaaGreatW.PrintWords Go.Proofs.YtieompfmhnpnaaaGreatW.PrintLast Go.Proofs.YtieompfmhnpnaaaGreatW.PrintMore
open Go.Maps (Keyed)
set_option linter.unusedVariables false
set_option linter.unusedSimpArgs false
def pieceNo (s : ByteArray) (i : Nat) : ByteArray := (piecesOf s).getD i ⟨#[]⟩
theorem piecesAt_length (s : ByteArray) : ∀ (k fr : Nat) (q : Bool) (i : Nat), (piecesAt s k fr q i).length ≤ k + 1
  | 0, fr, q, i => by simp [piecesAt]
  | k + 1, fr, q, i => by
    rw [piecesAt]
    have h1 := piecesAt_length s k fr q (i + 2)
    have h2 := piecesAt_length s k fr (!q) (i + 1)
    have h3 := piecesAt_length s k (i + 1) q (i + 1)
    have h4 := piecesAt_length s k fr q (i + 1)
    split
    · split
      · omega
      · split
        · omega
        · split
          · rw [List.length_cons]; omega
          · omega
    · simp
theorem piecesAt_size (s : ByteArray) : ∀ (k fr : Nat) (q : Bool) (i : Nat), ∀ x ∈ piecesAt s k fr q i, x.size ≤ s.size
  | 0, fr, q, i => by
    intro x hx
    obtain rfl : x = s.extract fr s.size := by simpa [piecesAt] using hx
    simp
  | k + 1, fr, q, i => by
    rw [piecesAt]
    split
    · split
      · exact piecesAt_size s k fr q (i + 2)
      · split
        · exact piecesAt_size s k fr (!q) (i + 1)
        · split
          · intro x hx
            rcases List.mem_cons.1 hx with rfl | hx
            · simp; omega
            · exact piecesAt_size s k (i + 1) q (i + 1) x hx
          · exact piecesAt_size s k fr q (i + 1)
    · intro x hx
      obtain rfl : x = s.extract fr s.size := by simpa using hx
      simp
theorem pieceNo_size (s : ByteArray) (i : Nat) : (pieceNo s i).size ≤ s.size := by
  unfold pieceNo
  rw [List.getD_eq_getElem?_getD]
  cases h : (piecesOf s)[i]? with
  | none => exact Nat.zero_le _
  | some x => exact piecesAt_size s _ _ _ _ x (List.mem_of_getElem? h)
theorem pieces_stops (n bs : Nat) (s : ByteArray) (hs : s.size ≤ 1099511627776) (w : World) (hb : bs < w.heap.size) (hc : w.heap[bs]? = some (.cells #[.string s] 9 (0, 0))) :
    SeqStopsK Fence.wide n Tryz.prog 70 #[.pointer (some ⟨bs, 0, none⟩)] (fun i : Nat => #[Value.string (pieceNo s i)]) (fun W W' => W'.heap[bs]? = W.heap[bs]?) (fun xs => xs.map (pieceNo s) = piecesOf s) (fun pre => pre.map (pieceNo s) <+: piecesOf s) (piecesOf s).length w := fun l J Jx W hW hJ hJx hY h0 => by
  refine (pieces1_in n l bs s hs (fun pre W => ∃ is : List Nat, is.map (pieceNo s) = pre ∧ J is W) (fun pre W => ∃ is : List Nat, is.map (pieceNo s) = pre ∧ Jx is W) ?_ W ((hW.block bs hb).trans hc) ⟨[], rfl, h0⟩).mono ?_
  · rintro pre x W1 hx ⟨is, rfl, hj⟩ hl
    obtain ⟨i, hi, rfl⟩ := List.getElem_of_mem hx
    have e : pieceNo s i = (piecesOf s)[i] := by unfold pieceNo; rw [List.getD_eq_getElem?_getD, List.getElem?_eq_getElem hi]; rfl
    rw [List.length_map] at hl
    obtain ⟨fn, tmps, assign, body, hy, hR⟩ := hY is i W1 hj hl
    dsimp only at hy
    rw [e] at hy
    refine ⟨fn, tmps, assign, body, hy, hR.mono ?_⟩
    rintro e' W' (⟨rfl, h1, h2⟩ | ⟨rfl, h1⟩)
    · exact .inl ⟨rfl, ⟨is ++ [i], by simp [e], h1⟩, h2⟩
    · exact .inr ⟨rfl, is ++ [i], by simp [e], h1⟩
  · rintro e W' ⟨hv, ⟨ys, rfl, is, hi, hj⟩ | ⟨pre, hp, is, rfl, hj⟩⟩
    · exact ⟨hv, .inl ⟨is, hi, hj⟩⟩
    · exact ⟨hv, .inr ⟨is, hp, hj⟩⟩
attribute [local go_sem] Oper.semAt_some
attribute [local go_sem] wide_fn wide_depth wide_fn_r wide_depth_r
theorem pieces_in (n : Nat) (s : ByteArray) (w : World) :
    CallsIn Fence.wide n Tryz.prog 39 #[.string s] w fun e w' => e = .returned (.func (.func 70) #[] #[.pointer (some ⟨w.heap.size, 0, none⟩)]) ∧ w' = w.alloc (.cells #[.string s] 9) := by
  refine callsIn_of_wp Tryz.func39 rfl trivial ?_ rfl
  simp only [Tryz.ntmps39, List.size_toArray, List.length_cons, List.length_nil, Nat.reduceAdd, Nat.reduceSub, Array.replicate_succ, Array.replicate_zero, List.push_toArray, List.append_toArray, List.nil_append, List.cons_append]
  gi_wp2
  go_ret
  exact ⟨rfl, rfl⟩
structure QP where
  main : ByteArray
  first : Bool
  ps : List S25
def namesOf (l : List S25) : List ByteArray := l.map (·.f0)
theorem lowS_size (s : ByteArray) : (lowS s).size = s.size := by
  show (lowS s).data.size = s.data.size
  unfold lowS
  simp
def pnameS (x : ByteArray) : ByteArray := lowS (trimS (cutAt x 61).1)
def inB (x : ByteArray) (ns : List ByteArray) : Bool := ns.any fun y => bl y == bl x
def stepQ (st : QP) (x : ByteArray) : QP :=
  if st.first = true then ⟨trimS x, false, st.ps⟩
  else if (cutAt x 61).2.2 = false ∨ isTokenB (pnameS x) = false ∨ inB (pnameS x) (namesOf st.ps) = true then st
  else if (valueS (trimS (cutAt x 61).2.1)).2 = true then ⟨st.main, st.first, st.ps ++ [⟨pnameS x, (valueS (trimS (cutAt x 61).2.1)).1⟩]⟩
  else st
def foldQ (st : QP) (xs : List ByteArray) : QP := xs.foldl stepQ st
def paramsS (s : ByteArray) : ByteArray × List S25 :=
  let st := foldQ ⟨⟨#[]⟩, true, []⟩ (piecesOf s)
  (st.main, st.ps)
theorem foldQ_snoc (st : QP) (xs : List ByteArray) (x : ByteArray) : foldQ st (xs ++ [x]) = stepQ (foldQ st xs) x := by simp [foldQ]
theorem stepQ_len (st : QP) (x : ByteArray) : (stepQ st x).ps.length ≤ st.ps.length + 1 := by
  unfold stepQ
  split
  · exact Nat.le_succ _
  · split
    · exact Nat.le_succ _
    · split
      · simp
      · exact Nat.le_succ _
theorem foldQ_len (st : QP) (xs : List ByteArray) : (foldQ st xs).ps.length ≤ st.ps.length + xs.length := by
  induction xs generalizing st with
  | nil => exact Nat.le_refl _
  | cons x xs ih =>
    have h1 := ih (stepQ st x)
    have h2 := stepQ_len st x
    show (foldQ (stepQ st x) xs).ps.length ≤ _
    rw [List.length_cons]
    omega
abbrev DQ := DataW Unit
def seenD (ns : List ByteArray) : DQ := ns.foldl (fun D x => D.put (.string x.data.toList) (.lit (.bool true))) (.map [])
theorem seenD_snoc (ns : List ByteArray) (x : ByteArray) : seenD (ns ++ [x]) = (seenD ns).put (.string x.data.toList) (.lit (.bool true)) := by simp [seenD]
theorem seenD_isMap (ns : List ByteArray) : Maps.IsMap (seenD ns) := by
  rcases List.eq_nil_or_concat ns with rfl | ⟨ms, x, rfl⟩
  · exact Maps.isMap_empty
  · rw [List.concat_eq_append, seenD_snoc]
    exact (seenD_isMap ms).put _ _
termination_by ns.length
decreasing_by all_goals (subst_vars; simp)
theorem seenD_at (ns : List ByteArray) (x : ByteArray) : (seenD ns).atKey (.string x.data.toList) (.lit (.bool false)) = .lit (.bool (inB x ns)) := by
  rcases List.eq_nil_or_concat ns with rfl | ⟨ms, y, rfl⟩
  · rfl
  · rw [List.concat_eq_append, seenD_snoc]
    by_cases e : x = y
    · subst e
      rw [Maps.atKey_put_same (seenD_isMap ms) (by exact trivial)]
      simp [inB]
    · rw [Maps.atKey_put_other (fun h => e (by
        injection h with h
        exact ByteArray.ext (Array.toList_inj.1 h)))]
      rw [seenD_at ms x]
      have e2 : (bl y == bl x) = false := by
        rw [beq_eq_false_iff_ne]
        exact fun h => e (bl_inj h).symm
      unfold inB
      rw [List.any_append]
      simp only [List.any_cons, List.any_nil, e2, Bool.or_false]
termination_by ns.length
decreasing_by all_goals (subst_vars; simp)
theorem K9 : Keyed Tryz.prog 9 := Maps.string_keyed Tryz.underlying9
def paramVals (l : List S25) : List Value := l.flatMap fun f => [.string f.f0, .string f.f1]
theorem paramVals_length (l : List S25) : (paramVals l).length = l.length * 2 := by
  induction l with
  | nil => rfl
  | cons x l ih => unfold paramVals at *; simp at *; omega
theorem paramVals_snoc (l : List S25) (f : S25) : paramVals (l ++ [f]) = paramVals l ++ [.string f.f0, .string f.f1] := by simp [paramVals]
structure QSt (n0 b0 b1 b2 bm b3 bs : Nat) (raw : ByteArray) (st : QP) (ns : List ByteArray) (vP : Value) (W : World) : Prop where
  c0 : W.heap[b0]? = some (.cells #[.string st.main] 9 (0, 0))
  c1 : W.heap[b1]? = some (.cells #[.bool st.first] 4 (0, 0))
  c2 : W.heap[b2]? = some (.cells #[vP] 22 (0, 0))
  c3 : W.heap[b3]? = some (.cells #[.map (some bm)] 54 (0, 0))
  cs : W.heap[bs]? = some (.cells #[.string raw] 9 (0, 0))
  oP : W.ownsRow n0 25 2 vP st.ps.length (paramVals st.ps)
  mp : W.ownsMap Tryz.prog 9 (plainElem Tryz.prog 4) bm ns.length (seenD ns)
section
variable {n0 b0 b1 b2 bm b3 bs : Nat} {raw : ByteArray} {st : QP} {ns : List ByteArray} {vP : Value} {W : World}
theorem qst_own (X Y : World) (row : Option Nat) (h : QSt n0 b0 b1 b2 bm b3 bs raw st ns vP X) (hg : X.grownBy Y row) (hr : ∀ r, row = some r → bm < r ∧ ∃ o : Obj, X.heap[r]? = some o ∧ o.isCells = false) : QSt n0 b0 b1 b2 bm b3 bs raw st ns vP Y := by
  have k : ∀ {b : Nat} {c : Array Value} {t : TypeId}, X.heap[b]? = some (.cells c t (0, 0)) → Y.heap[b]? = some (.cells c t (0, 0)) := fun {b c t} hb =>
    (grownBy_keeps_cells hg (fun r e => (hr r e).2) hb rfl).trans hb
  have ko : ∀ {e : TypeId} {size n : Nat} {v : Value} {xs : List Value}, X.ownsRow n0 e size v n xs → Y.ownsRow n0 e size v n xs := fun {e size n v xs} ho => by
    refine ho.kept hg ?_
    cases hv : v.ownBlock with
    | none => exact .inl rfl
    | some g =>
      refine .inr (fun e' => ?_)
      obtain ⟨cells, hc⟩ := own_typed ho g hv
      obtain ⟨_, o, h1, h2⟩ := hr g e'.symm
      rw [hc] at h1
      cases h1
      cases h2
  exact ⟨k h.c0, k h.c1, k h.c2, k h.c3, k h.cs, ko h.oP, h.mp.kept hg (fun e => by have := (hr bm e.symm).1; omega)⟩
theorem qst_below {w' : World} (h : QSt n0 b0 b1 b2 bm b3 bs raw st ns vP W) (hb : Below W.heap.size W w') : QSt n0 b0 b1 b2 bm b3 bs raw st ns vP w' :=
  qst_own W w' none h (grown_of_below hb none) (fun r e => by cases e)
theorem keeps_below {w' : World} (B : Nat) (hb : Below W.heap.size W w') : KeepsFrom B W w' := KeepsFrom.of_grownBy (grown_of_below hb none) (fun r e => by cases e)
theorem qst_set {b : Nat} {c : Array Value} {t : TypeId} {v : Value} {st' : QP} (h : QSt n0 b0 b1 b2 bm b3 bs raw st ns vP W) (hc : W.heap[b]? = some (.cells c t (0, 0))) (ht : t ≠ 25)
    (k0 : (W.setCell ⟨b, 0, none⟩ v).heap[b0]? = some (.cells #[.string st'.main] 9 (0, 0))) (k1 : (W.setCell ⟨b, 0, none⟩ v).heap[b1]? = some (.cells #[.bool st'.first] 4 (0, 0)))
    (k2 : b ≠ b2) (k3 : b ≠ b3) (ks : b ≠ bs) (hp : st'.ps = st.ps) : QSt n0 b0 b1 b2 bm b3 bs raw st' ns vP (W.setCell ⟨b, 0, none⟩ v) :=
  ⟨k0, k1, blk_far h.c2 (Ne.symm k2) _, blk_far h.c3 (Ne.symm k3) _, blk_far h.cs (Ne.symm ks) _, by rw [hp]; exact h.oP.kept (grownBy_setCell' W b _) (.inr (own_not h.oP hc ht)),
    h.mp.kept (grownBy_setCell' W b _) (fun e => by
      injection e with e
      obtain ⟨es, clock, hb, _⟩ := h.mp
      rw [e, hc] at hb
      cases hb)⟩
theorem qst_app (h : QSt n0 b0 b1 b2 bm b3 bs raw st ns vP W) (hb2 : n0 ≤ b2) (hn : n0 ≤ W.heap.size) {o : Obj} {w2 : World} {v' : Value} {nm v : ByteArray} (B : Nat)
    (hown' : w2.ownsRow n0 25 2 v' (st.ps.length + 1) (paramVals st.ps ++ [.string nm, .string v])) (hg : (W.alloc o).grownBy w2 vP.ownBlock) :
    w2.cell? ⟨b2, 0, none⟩ = some vP ∧ w2.frozen? ⟨b2, 0, none⟩ = false ∧ QSt n0 b0 b1 b2 bm b3 bs raw ⟨st.main, st.first, st.ps ++ [⟨nm, v⟩]⟩ ns v' (w2.setCell ⟨b2, 0, none⟩ v') ∧ Below n0 W (w2.setCell ⟨b2, 0, none⟩ v') ∧ KeepsFrom B W (w2.setCell ⟨b2, 0, none⟩ v') := by
  have kb : ∀ {b : Nat} {c : Array Value} {t : TypeId}, W.heap[b]? = some (.cells c t (0, 0)) → some b ≠ vP.ownBlock → w2.heap[b]? = some (.cells c t (0, 0)) := fun {b c t} hb h2 => by
    have hlt := (Array.getElem?_eq_some_iff.1 hb).1
    rw [hg.block b (by simp; omega) h2]
    exact (Lib.alloc_old W _ b hlt).trans hb
  have k0 := kb h.c0 (Ne.symm (own_not h.oP h.c0 (by decide)))
  have k1 := kb h.c1 (Ne.symm (own_not h.oP h.c1 (by decide)))
  have k2 := kb h.c2 (Ne.symm (own_not h.oP h.c2 (by decide)))
  have k3 := kb h.c3 (Ne.symm (own_not h.oP h.c3 (by decide)))
  have ks := kb h.cs (Ne.symm (own_not h.oP h.cs (by decide)))
  have rowcells : ∀ j o', vP.ownBlock = some j → (W.alloc o).heap[j]? = some o' → o'.isCells = true := fun j o' hj ho => by
    obtain ⟨cells, hc⟩ := own_typed (h.oP.alloc o) j hj
    rw [hc] at ho
    cases ho
    rfl
  have hm : w2.ownsMap Tryz.prog 9 (plainElem Tryz.prog 4) bm ns.length (seenD ns) := by
    refine (h.mp.alloc o).kept hg (fun e => ?_)
    obtain ⟨es, clock, hb, _⟩ := h.mp.alloc o
    have := rowcells bm _ e.symm hb
    cases this
  refine ⟨by simp [World.cell?, k2], by simp [World.frozen?, k2], ⟨blk_far k0 (ty_ne k0 k2 (by decide)) _, blk_far k1 (ty_ne k1 k2 (by decide)) _, ?_, blk_far k3 (ty_ne k3 k2 (by decide)) _, blk_far ks (ty_ne ks k2 (by decide)) _, ?_, ?_⟩, ?_, ?_⟩
  · have := blk_set k2 0 v'
    simpa using this
  · rw [paramVals_snoc, List.length_append]
    exact hown'.kept (grownBy_setCell' w2 b2 _) (.inr (own_not hown' k2 (by decide)))
  · exact hm.kept (grownBy_setCell' w2 b2 _) (fun e => by
      injection e with e
      obtain ⟨es, clock, hb, _⟩ := hm
      rw [e, k2] at hb
      cases hb)
  · refine Below.setCell ?_ (p := ⟨b2, 0, none⟩) hb2 v'
    refine (((Below.refl n0 W).alloc hn o).grown hg (by simp; omega) (fun j ej => own_base (h.oP.alloc o) j ej))
  · refine (((KeepsOthers.alloc W o).trans (KeepsOthers.of_grownBy hg rowcells)).trans (KeepsOthers.setCell _ _ _)).from B
theorem qst_map (h : QSt n0 b0 b1 b2 bm b3 bs raw st ns vP W) (hbm : n0 ≤ bm) (hn : n0 ≤ W.heap.size) {w2 : World} {nm : ByteArray} (B : Nat) (hB : bm < B)
    (hm : w2.ownsMap Tryz.prog 9 (plainElem Tryz.prog 4) bm (ns.length + 1) ((seenD ns).put (.string nm.data.toList) (.lit (.bool true)))) (hg : W.grownBy w2 (some bm)) :
    QSt n0 b0 b1 b2 bm b3 bs raw st (ns ++ [nm]) vP w2 ∧ Below n0 W w2 ∧ KeepsFrom B W w2 := by
  have kb : ∀ {b : Nat} {c : Array Value} {t : TypeId}, W.heap[b]? = some (.cells c t (0, 0)) → w2.heap[b]? = some (.cells c t (0, 0)) := fun {b c t} hb =>
    (hg.block b (Array.getElem?_eq_some_iff.1 hb).1 (fun e => by
      injection e with e
      obtain ⟨es, clock, h2, _⟩ := h.mp
      rw [← e, hb] at h2
      cases h2)).trans hb
  refine ⟨⟨kb h.c0, kb h.c1, kb h.c2, kb h.c3, kb h.cs, ?_, ?_⟩, (Below.refl n0 W).grown hg hn (fun k e => by injection e with e; omega), KeepsFrom.of_grownBy hg (fun j e => by injection e with e; omega)⟩
  · refine own_move h.oP (fun g hg2 => ?_)
    obtain ⟨cells, hcc⟩ := own_typed h.oP g hg2
    exact (kb hcc).trans hcc.symm
  · rw [seenD_snoc, List.length_append]
    exact hm
theorem qst_first (h : QSt n0 b0 b1 b2 bm b3 bs raw st ns vP W) (hb0 : n0 ≤ b0) (hb1 : n0 ≤ b1) (hbs : b0 ≠ bs) (m : ByteArray) (B : Nat) :
    QSt n0 b0 b1 b2 bm b3 bs raw ⟨m, false, st.ps⟩ ns vP ((W.setCell ⟨b0, 0, none⟩ (.string m)).setCell ⟨b1, 0, none⟩ (.bool false)) ∧ Below n0 W ((W.setCell ⟨b0, 0, none⟩ (.string m)).setCell ⟨b1, 0, none⟩ (.bool false)) ∧
      KeepsFrom B W ((W.setCell ⟨b0, 0, none⟩ (.string m)).setCell ⟨b1, 0, none⟩ (.bool false)) := by
  have n01 : b0 ≠ b1 := ty_ne h.c0 h.c1 (by decide)
  have s0 : (W.setCell ⟨b0, 0, none⟩ (.string m)).heap[b0]? = some (.cells #[.string m] 9 (0, 0)) := by
    have := blk_set h.c0 0 (.string m)
    simpa using this
  have h1 : QSt n0 b0 b1 b2 bm b3 bs raw ⟨m, st.first, st.ps⟩ ns vP (W.setCell ⟨b0, 0, none⟩ (.string m)) :=
    qst_set h h.c0 (by decide) s0 (blk_far h.c1 (Ne.symm n01) _) (ty_ne h.c0 h.c2 (by decide)) (ty_ne h.c0 h.c3 (by decide)) hbs rfl
  have s1 : ((W.setCell ⟨b0, 0, none⟩ (.string m)).setCell ⟨b1, 0, none⟩ (.bool false)).heap[b1]? = some (.cells #[.bool false] 4 (0, 0)) := by
    have := blk_set h1.c1 0 (.bool false)
    simpa using this
  refine ⟨qst_set h1 h1.c1 (by decide) (blk_far h1.c0 n01 _) s1 (ty_ne h1.c1 h1.c2 (by decide)) (ty_ne h1.c1 h1.c3 (by decide)) (ty_ne h1.c1 h1.cs (by decide)) rfl,
    ((Below.refl n0 W).setCell (p := ⟨b0, 0, none⟩) hb0 _).setCell (p := ⟨b1, 0, none⟩) hb1 _, ((KeepsOthers.setCell _ _ _).trans (KeepsOthers.setCell _ _ _)).from B⟩
set_option maxRecDepth 100000 in
theorem qst_look (h : QSt n0 b0 b1 b2 bm b3 bs raw st ns vP W) (nm : ByteArray) (hs : nm.size ≤ maxLen) :
    (Instr.lookup 54 (.map (some bm)) (.string nm) false).run Tryz.prog W = .ok (.bool (inB nm ns)) W := by
  obtain ⟨v, ps, hrun, hv⟩ := h.mp.lookup (t := 54) K9 Tryz.underlying54 (Tryz.zeroValue4 W) (plainElem_bool Tryz.underlying4 false) (WideMaps.keyOf_string_mk Tryz.underlying9 hs)
  rw [seenD_at] at hv
  have : v = .bool (inB nm ns) := by
    unfold plainElem at hv
    rw [Tryz.underlying4] at hv
    cases v <;> simp at hv
    rw [hv.1]
  rw [hrun, this]
theorem qst_result (h : QSt n0 b0 b1 b2 bm b3 bs raw st ns vP W) : Kd.R k25 25 W n0 (fun _ => True) vP st.ps := by
  refine ⟨fun _ _ => trivial, paramVals st.ps, h.oP, paramVals_length _, fun j p hj => ?_⟩
  have e : ((paramVals st.ps).drop (j * 2)).take 2 = [.string p.f0, .string p.f1] := by
    have : ∀ (l : List S25) (j : Nat), l[j]? = some p → ((paramVals l).drop (j * 2)).take 2 = [.string p.f0, .string p.f1] := by
      intro l
      induction l with
      | nil => intro j h; simp at h
      | cons x l ih =>
        intro j hj
        match j, hj with
        | 0, hj =>
          obtain rfl : x = p := by simpa using hj
          rfl
        | j + 1, hj =>
          have := ih j (by simpa using hj)
          have e1 : paramVals (x :: l) = .string x.f0 :: .string x.f1 :: paramVals l := rfl
          rw [e1, show (j + 1) * 2 = j * 2 + 1 + 1 by omega]
          exact this
    exact this st.ps j hj
  rw [show k25.sz = 2 from rfl, e]
  exact k25_mkM _ _ _ p
end
def w0Q (w : World) (a0 : ByteArray) : World := (((((w.alloc (Obj.cells #[Value.string ⟨#[]⟩] 9)).alloc (Obj.cells #[Value.bool true] 4)).alloc (Obj.cells #[Value.slice none 0 0] 22)).alloc (Obj.map #[] 0)).alloc (Obj.cells #[Value.map (some (w.heap.size + 1 + 1 + 1))] 54)).alloc (Obj.cells #[Value.string a0] 9)
theorem w0Q_size (w : World) (a0 : ByteArray) : (w0Q w a0).heap.size = w.heap.size + 6 := by unfold w0Q; simp
theorem w0Q_below (w : World) (a0 : ByteArray) : Below w.heap.size w (w0Q w a0) := by
  unfold w0Q
  exact ((((((Below.refl _ w).alloc (Nat.le_refl _) _).alloc (by simp) _).alloc (by simp <;> omega) _).alloc (by simp <;> omega) _).alloc (by simp <;> omega) _).alloc (by simp <;> omega) _
theorem qst_start (w : World) (a0 : ByteArray) :
    QSt w.heap.size w.heap.size (w.heap.size + 1) (w.heap.size + 1 + 1) (w.heap.size + 1 + 1 + 1) (w.heap.size + 1 + 1 + 1 + 1) (w.heap.size + 1 + 1 + 1 + 1 + 1) a0 ⟨⟨#[]⟩, true, []⟩ [] (.slice none 0 0) (w0Q w a0) := by
  unfold w0Q
  refine ⟨?_, ?_, ?_, ?_, ?_, own_nil _ _ _ _, ?_⟩
  · exact alloc_old' _ _ _ _ (alloc_old' _ _ _ _ (alloc_old' _ _ _ _ (alloc_old' _ _ _ _ (alloc_old' _ _ _ _ (alloc_at _ _ _ rfl)))))
  · exact alloc_old' _ _ _ _ (alloc_old' _ _ _ _ (alloc_old' _ _ _ _ (alloc_old' _ _ _ _ (alloc_at _ _ _ (by simp)))))
  · exact alloc_old' _ _ _ _ (alloc_old' _ _ _ _ (alloc_old' _ _ _ _ (alloc_at _ _ _ (by simp))))
  · exact alloc_old' _ _ _ _ (alloc_at _ _ _ (by simp))
  · exact alloc_at _ _ _ (by simp)
  · have := World.ownsMap_made (H := Unit) (((w.alloc (Obj.cells #[Value.string ⟨#[]⟩] 9)).alloc (Obj.cells #[Value.bool true] 4)).alloc (Obj.cells #[Value.slice none 0 0] 22)) Tryz.prog 9 (plainElem Tryz.prog 4)
    simp only [World.size_alloc] at this
    exact (this.alloc _).alloc _
end Go.Proofs.YtieompfmhnpnaaaGreat.H
namespace Go.Proofs.YtieompfmhnpnaaaGreat.H
open Go.RowKit Go.Proofs.YtieompfmhnpnaaaGreatW.PrintWords Go.Proofs.YtieompfmhnpnaaaGreatW.PrintLast Go.Proofs.YtieompfmhnpnaaaGreatW.PrintMore
set_option linter.unusedVariables false
set_option linter.unusedSimpArgs false
attribute [local go_sem] Oper.semAt_some
attribute [local go_sem] wide_fn wide_depth wide_fn_r wide_depth_r
def header_Params.f (a0 : ByteArray) : Option (ByteArray × List S25) := if a0.size ≤ 8388608 then some (paramsS a0) else none
def InvQ (n0 b0 b1 b2 bm b3 bs : Nat) (raw : ByteArray) (w : World) (pre : List Nat) (W : World) : Prop :=
  (∃ vP, QSt n0 b0 b1 b2 bm b3 bs raw (foldQ ⟨⟨#[]⟩, true, []⟩ (pre.map (pieceNo raw))) (namesOf (foldQ ⟨⟨#[]⟩, true, []⟩ (pre.map (pieceNo raw))).ps) vP W) ∧ Below n0 w W
set_option maxRecDepth 100000 in
set_option maxHeartbeats 4000000 in
theorem header_Params.calls (a0 : ByteArray) (r1 : ByteArray) (r2 : List S25) (w : World) (h : header_Params.f a0 = some (r1, r2)) :
    Calls Tryz.prog 11 #[.string a0] w fun e w' => ∃ v0_ : Value, e = .returned (.tuple #[.string r1, v0_]) ∧ Kd.R k25 25 w' w.heap.size (fun _ => True) v0_ r2 ∧ Below w.heap.size w w' := by
  unfold header_Params.f at h
  split at h
  case isFalse => cases h
  case isTrue hsz =>
  injection h with h
  refine callsIn_wide.1 (callsIn_of_wp_marks (n := 10) Tryz.func11 rfl trivial ?_ rfl)
  simp only [Tryz.ntmps11, List.size_toArray, List.length_cons, List.length_nil, Nat.reduceAdd, Nat.reduceSub, Array.replicate_succ, Array.replicate_zero, List.push_toArray, List.append_toArray, List.nil_append, List.cons_append]
  have hmk : ∀ W : World, (Instr.makeMap 54 none).run Tryz.prog W = .ok (.map (some W.heap.size)) (W.alloc (.map #[] 0)) := fun W => run_makeMap 54 W
  gi_wp2_with (gi_at_call 39; refine (pieces_in _ _ _).mono ?_; rintro e w' ⟨rfl, rfl⟩)
  obtain ⟨W0, hW0⟩ : ∃ W0, w0Q w a0 = W0 := ⟨_, rfl⟩
  have hs0 := w0Q_size w a0
  have hB0 := w0Q_below w a0
  have hP0 := qst_start w a0
  rw [hW0] at hs0 hB0 hP0
  unfold w0Q at hW0
  rw [hW0]
  clear hW0 hmk
  have hN : (piecesOf a0).length ≤ 8388610 := Nat.le_trans (piecesAt_length a0 _ _ _ _) (by omega)
  refine wpIn_rangeFunc_ownH rfl (by decide) (gf := 70) (lb := #[.pointer (some ⟨w.heap.size + 1 + 1 + 1 + 1 + 1, 0, none⟩)]) rfl trivial (enters_of Tryz.func70 (by kernel_rfl) rfl)
    (encs := fun i : Nat => #[Value.string (pieceNo a0 i)]) (pieces_stops 9 (w.heap.size + 1 + 1 + 1 + 1 + 1) a0 (by omega) W0 (by omega) hP0.cs) (Kp := fun W W' => W'.heap[w.heap.size + 1 + 1 + 1 + 1 + 1]? = W.heap[w.heap.size + 1 + 1 + 1 + 1 + 1]?) (fun {A B C} h k => Eq.trans k h) (fun W l o o' hl ho _ _ => World.putObj_heap_other (by omega)) (Below.refl _ _) (fun _ => rfl)
    (InvQ w.heap.size w.heap.size (w.heap.size + 1) (w.heap.size + 1 + 1) (w.heap.size + 1 + 1 + 1) (w.heap.size + 1 + 1 + 1 + 1) (w.heap.size + 1 + 1 + 1 + 1 + 1) a0 w) (fun _ _ _ => False)
    ?ownI (fun _ _ _ _ _ h _ _ => h) ⟨⟨_, hP0⟩, hB0⟩
    (fun x a' W => a' = { tmps := #[Value.string a0, undef, Value.string ⟨#[]⟩, Value.slice none 0 0, Value.pointer (some ⟨w.heap.size, 0, none⟩), Value.pointer (some ⟨w.heap.size + 1, 0, none⟩), Value.pointer (some ⟨w.heap.size + 1 + 1, 0, none⟩), Value.pointer (some ⟨w.heap.size + 1 + 1 + 1 + 1, 0, none⟩), Value.string (pieceNo a0 x), undef, undef, undef, undef, undef, Value.map (some (w.heap.size + 1 + 1 + 1)), Value.string a0, Value.func (Fn.func 70) #[] #[Value.pointer (some ⟨w.heap.size + 1 + 1 + 1 + 1 + 1, 0, none⟩)], Value.string (pieceNo a0 x), undef, undef, undef, undef, undef, undef, undef, undef, undef, undef, undef, undef, undef, undef, undef, undef, undef, undef, undef, undef, undef, undef, undef, undef, undef, undef, undef, undef, undef, undef, undef, undef, undef, undef, undef, undef, undef, undef, undef, undef, undef], defers := [] })
    (fun _ _ _ _ _ _ h _ _ => h) ?assign ?body ?done (fun _ _ _ _ _ _ h _ => h.elim)
  case ownI =>
    refine OwnFrom.and (fun pre X Y row hs hg hr => ?_) (ownFrom_below (Nat.le_refl _) (by omega))
    obtain ⟨vP, h1⟩ := hs
    exact ⟨vP, qst_own X Y row h1 hg (fun r e => ⟨by have := (hr r e).1; omega, (hr r e).2⟩)⟩
  case assign =>
    rintro l pre x W K hI hK
    gi_wp2
    exact hK _ _ (KeepsFrom.refl _ _) rfl hI rfl
  case body =>
    rintro l pre x a' W hl ⟨r, hr⟩ ⟨⟨vP, hP⟩, hB⟩ rfl hlt
    have hlen := foldQ_len ⟨⟨#[]⟩, true, []⟩ (pre.map (pieceNo a0))
    have hsnoc := foldQ_snoc ⟨⟨#[]⟩, true, []⟩ (pre.map (pieceNo a0)) (pieceNo a0 x)
    have hmap : (pre ++ [x]).map (pieceNo a0) = pre.map (pieceNo a0) ++ [pieceNo a0 x] := by simp
    rw [← hmap] at hsnoc
    clear hmap
    rw [List.length_map] at hlen
    generalize foldQ ⟨⟨#[]⟩, true, []⟩ (pre.map (pieceNo a0)) = st at hP hlen hsnoc
    have hps : st.ps.length ≤ 8388610 := by simp at hlen; omega
    have hpc := Nat.le_trans (pieceNo_size a0 x) hsz
    have hn0 := hB.size
    have goes : ∀ W3 vP3, Below w.heap.size W W3 → KeepsFrom W0.heap.size W W3 → QSt w.heap.size w.heap.size (w.heap.size + 1) (w.heap.size + 1 + 1) (w.heap.size + 1 + 1 + 1) (w.heap.size + 1 + 1 + 1 + 1) (w.heap.size + 1 + 1 + 1 + 1 + 1) a0 (stepQ st (pieceNo a0 x)) (namesOf (stepQ st (pieceNo a0 x)).ps) vP3 W3 → ∀ act, ownPostG W0.heap.size (fun W W' => W'.heap[w.heap.size + 1 + 1 + 1 + 1 + 1]? = W.heap[w.heap.size + 1 + 1 + 1 + 1 + 1]?) (InvQ w.heap.size w.heap.size (w.heap.size + 1) (w.heap.size + 1 + 1) (w.heap.size + 1 + 1 + 1) (w.heap.size + 1 + 1 + 1 + 1) (w.heap.size + 1 + 1 + 1 + 1 + 1) a0 w) (fun _ _ _ => False) (pre ++ [x]) W .normal act W3 := by
      intro W3 vP3 h1 h2 h3 act
      refine ⟨h2, h3.cs.trans hP.cs.symm, ⟨vP3, ?_⟩, hB.trans h1⟩
      rw [hsnoc]
      exact h3
    clear hsnoc hlen
    generalize pieceNo a0 x = pc at goes hpc
    obtain ⟨AF, cF, rfl⟩ := own_slice hP.oP
    have cP0 : W.cell? ⟨w.heap.size, 0, none⟩ = some (.string st.main) := cell_of hP.c0 rfl
    have fP0 : W.frozen? ⟨w.heap.size, 0, none⟩ = false := frozen_of hP.c0
    have cP1 : W.cell? ⟨w.heap.size + 1, 0, none⟩ = some (.bool st.first) := cell_of hP.c1 rfl
    have fP1 : W.frozen? ⟨w.heap.size + 1, 0, none⟩ = false := frozen_of hP.c1
    have HP := Aside0.mk hP
    have GO := Aside0.mk goes
    clear goes
    obtain ⟨k1, hk1⟩ := (trim_ev pc (by omega)).rounds
    have HK1 := Aside0.mk hk1
    clear hk1
    by_cases z : st.first = true
    · rw [z] at cP1
      have E : stepQ st pc = ⟨trimS pc, false, st.ps⟩ := by unfold stepQ; rw [if_pos z]
      have HE := Aside0.mk E
      clear E z hP
      gi_wp2_with fail
      refine (CallsIn.inRound l (callsIn_wide.2 (text_Trim.calls k1 _ _ _ HK1.out))).mono ?_
      rintro e w1 ⟨rfl, ⟨nd, rfl⟩⟩
      gi_wp2_with fail
      obtain ⟨q1, q2, q3⟩ := qst_first (qst_below HP.out (pw_below_drewN (Below.refl _ W) nd)) (Nat.le_refl _) (by omega) (by omega) (trimS pc) W0.heap.size
      refine GO.out _ (.slice AF st.ps.length cF) ((pw_below_drewN (Below.refl _ W) nd).trans q2) ((keeps_below _ (pw_below_drewN (Below.refl W.heap.size W) nd)).trans q3) ?_ _
      rw [HE.out]
      exact q1
    · have z' : st.first = false := by simpa using z
      rw [z'] at cP1
      obtain ⟨n0, re, fd, hcut⟩ : ∃ n0 re fd, cutAt pc 61 = (n0, re, fd) := ⟨_, _, _, rfl⟩
      have hsz2 := cutAt_two pc 61
      rw [hcut] at hsz2
      dsimp only at hsz2
      obtain ⟨hs1, hs2⟩ := hsz2
      have hcf : strings_Cut.f pc ⟨#[61]⟩ = some (n0, re, fd) := by
        unfold strings_Cut.f
        rw [if_pos ⟨by omega, rfl⟩]
        exact congrArg some hcut
      have HCF := Aside0.mk hcf
      have ht1 := trim_size n0
      have hlow : text_Lower.f (trimS n0) = some (lowS (trimS n0)) := by unfold text_Lower.f; rw [if_pos (by omega)]
      have HLOW := Aside0.mk hlow
      have E : stepQ st pc = if fd = false ∨ isTokenB (lowS (trimS n0)) = false ∨ inB (lowS (trimS n0)) (namesOf st.ps) = true then st
          else if (valueS (trimS re)).2 = true then ⟨st.main, st.first, st.ps ++ [⟨lowS (trimS n0), (valueS (trimS re)).1⟩]⟩ else st := by
        unfold stepQ pnameS
        rw [if_neg z, hcut]
      have hnm := lowS_size (trimS n0)
      obtain ⟨k2, hk2⟩ := (trim_ev n0 (by omega)).rounds
      generalize lowS (trimS n0) = nm at *
      obtain ⟨k3, hk3⟩ := (isToken_ev nm (by omega)).rounds
      obtain ⟨k4, hk4⟩ := (trim_ev re (by omega)).rounds
      have ht2 := trim_size re
      obtain ⟨k5, hk5⟩ := (value_ev (trimS re) (by omega)).rounds
      obtain ⟨v, ok, hv⟩ : ∃ v ok, valueS (trimS re) = (v, ok) := ⟨_, _, rfl⟩
      rw [hv] at hk5 E
      dsimp only at E
      have HK2 := Aside0.mk hk2
      have HK3 := Aside0.mk hk3
      have HK4 := Aside0.mk hk4
      have HK5 := Aside0.mk hk5
      have hnmx : nm.size ≤ maxLen := by unfold maxLen; omega
      clear hcf hcut hlow hk2 hk3 hk4 hk5 hv z hP
      cases fd with
      | false =>
        rw [if_pos (.inl rfl)] at E
        have HE := Aside0.mk E
        clear E
        gi_wp2_with fail
        refine (CallsIn.inRound l (callsIn_wide.2 (strings_Cut.calls _ _ _ _ _ _ HCF.out))).mono ?_
        rintro e w1 ⟨rfl, ⟨nd, rfl⟩⟩
        gi_wp2_with fail
        refine (CallsIn.inRound l (callsIn_wide.2 (text_Trim.calls k2 _ _ _ HK2.out))).mono ?_
        rintro e w1 ⟨rfl, ⟨nd2, rfl⟩⟩
        gi_wp2_with fail
        refine (CallsIn.inRound l (callsIn_wide.2 (text_Lower.calls _ _ _ HLOW.out))).mono ?_
        rintro e w1 ⟨rfl, hb1⟩
        have hb : Below W.heap.size W w1 := (pw_below_drewN (Below.refl W.heap.size W) _).trans hb1
        have HB := Aside0.mk hb
        clear hb hb1
        gi_wp2_with fail
        refine GO.out _ (.slice AF st.ps.length cF) (HB.out.mono hn0) (keeps_below _ HB.out) ?_ _
        rw [HE.out]
        exact qst_below HP.out HB.out
      | true =>
      cases htk : isTokenB nm with
      | false =>
        rw [htk] at HK3
        rw [if_pos (.inr (.inl htk))] at E
        have HE := Aside0.mk E
        clear E htk
        gi_wp2_with fail
        refine (CallsIn.inRound l (callsIn_wide.2 (strings_Cut.calls _ _ _ _ _ _ HCF.out))).mono ?_
        rintro e w1 ⟨rfl, ⟨nd, rfl⟩⟩
        gi_wp2_with fail
        refine (CallsIn.inRound l (callsIn_wide.2 (text_Trim.calls k2 _ _ _ HK2.out))).mono ?_
        rintro e w1 ⟨rfl, ⟨nd2, rfl⟩⟩
        gi_wp2_with fail
        refine (CallsIn.inRound l (callsIn_wide.2 (text_Lower.calls _ _ _ HLOW.out))).mono ?_
        rintro e w1 ⟨rfl, hb1⟩
        have hb : Below W.heap.size W w1 := (pw_below_drewN (Below.refl W.heap.size W) _).trans hb1
        have HB := Aside0.mk hb
        clear hb hb1
        gi_wp2_with fail
        refine (CallsIn.inRound l (callsIn_wide.2 (header_isToken.calls k3 _ _ _ HK3.out))).mono ?_
        rintro e w2 ⟨rfl, ⟨nd3, rfl⟩⟩
        gi_wp2_with fail
        have hb2 : Below W.heap.size W (w1.drewN nd3) := pw_below_drewN HB.out nd3
        refine GO.out _ (.slice AF st.ps.length cF) (hb2.mono hn0) (keeps_below _ hb2) ?_ _
        rw [HE.out]
        exact qst_below HP.out hb2
      | true =>
      rw [htk] at HK3
      cases hin : inB nm (namesOf st.ps) with
      | true =>
        rw [if_pos (.inr (.inr hin))] at E
        have HE := Aside0.mk E
        have HI := Aside0.mk hin
        clear E hin htk
        gi_wp2_with fail
        refine (CallsIn.inRound l (callsIn_wide.2 (strings_Cut.calls _ _ _ _ _ _ HCF.out))).mono ?_
        rintro e w1 ⟨rfl, ⟨nd, rfl⟩⟩
        gi_wp2_with fail
        refine (CallsIn.inRound l (callsIn_wide.2 (text_Trim.calls k2 _ _ _ HK2.out))).mono ?_
        rintro e w1 ⟨rfl, ⟨nd2, rfl⟩⟩
        gi_wp2_with fail
        refine (CallsIn.inRound l (callsIn_wide.2 (text_Lower.calls _ _ _ HLOW.out))).mono ?_
        rintro e w1 ⟨rfl, hb1⟩
        have hb : Below W.heap.size W w1 := (pw_below_drewN (Below.refl W.heap.size W) _).trans hb1
        have hq1 := qst_below HP.out hb
        have c3' : w1.cell? ⟨w.heap.size + 1 + 1 + 1 + 1, 0, none⟩ = some (.map (some (w.heap.size + 1 + 1 + 1))) := cell_of hq1.c3 rfl
        have HB := Aside0.mk hb
        have HQ1 := Aside0.mk hq1
        clear hb hb1 hq1
        gi_wp2_with fail
        refine (CallsIn.inRound l (callsIn_wide.2 (header_isToken.calls k3 _ _ _ HK3.out))).mono ?_
        rintro e w2 ⟨rfl, ⟨nd3, rfl⟩⟩
        have hb2 : Below W.heap.size W (w1.drewN nd3) := pw_below_drewN HB.out nd3
        have hq2 := qst_below HP.out hb2
        have hlook := qst_look hq2 nm hnmx
        have HB2 := Aside0.mk hb2
        have HQ2 := Aside0.mk hq2
        clear hb2 hq2
        rw [HI.out] at hlook
        gi_wp2_with fail
        refine GO.out _ (.slice AF st.ps.length cF) (HB2.out.mono hn0) (keeps_below _ HB2.out) ?_ _
        rw [HE.out]
        exact HQ2.out
      | false =>
      rw [if_neg (by rintro (h | h | h) <;> first | (cases h; done) | (rw [htk] at h; cases h; done) | (rw [hin] at h; cases h; done))] at E
      have HI := Aside0.mk hin
      clear hin htk
      cases ok with
      | false =>
        rw [if_neg (by decide)] at E
        have HE := Aside0.mk E
        clear E
        gi_wp2_with fail
        refine (CallsIn.inRound l (callsIn_wide.2 (strings_Cut.calls _ _ _ _ _ _ HCF.out))).mono ?_
        rintro e w1 ⟨rfl, ⟨nd, rfl⟩⟩
        gi_wp2_with fail
        refine (CallsIn.inRound l (callsIn_wide.2 (text_Trim.calls k2 _ _ _ HK2.out))).mono ?_
        rintro e w1 ⟨rfl, ⟨nd2, rfl⟩⟩
        gi_wp2_with fail
        refine (CallsIn.inRound l (callsIn_wide.2 (text_Lower.calls _ _ _ HLOW.out))).mono ?_
        rintro e w1 ⟨rfl, hb1⟩
        have hb : Below W.heap.size W w1 := (pw_below_drewN (Below.refl W.heap.size W) _).trans hb1
        have hq1 := qst_below HP.out hb
        have c3' : w1.cell? ⟨w.heap.size + 1 + 1 + 1 + 1, 0, none⟩ = some (.map (some (w.heap.size + 1 + 1 + 1))) := cell_of hq1.c3 rfl
        have HB := Aside0.mk hb
        have HQ1 := Aside0.mk hq1
        clear hb hb1 hq1
        gi_wp2_with fail
        refine (CallsIn.inRound l (callsIn_wide.2 (header_isToken.calls k3 _ _ _ HK3.out))).mono ?_
        rintro e w2 ⟨rfl, ⟨nd3, rfl⟩⟩
        have hb2 : Below W.heap.size W (w1.drewN nd3) := pw_below_drewN HB.out nd3
        have hq2 := qst_below HP.out hb2
        have hlook := qst_look hq2 nm hnmx
        have HB2 := Aside0.mk hb2
        have HQ2 := Aside0.mk hq2
        clear hb2 hq2
        rw [HI.out] at hlook
        gi_wp2_with fail
        refine (CallsIn.inRound l (callsIn_wide.2 (text_Trim.calls k4 _ _ _ HK4.out))).mono ?_
        rintro e w3 ⟨rfl, ⟨nd4, rfl⟩⟩
        gi_wp2_with fail
        refine (CallsIn.inRound l (callsIn_wide.2 (header_paramValue.calls k5 _ _ _ _ HK5.out))).mono ?_
        rintro e w4 ⟨rfl, hb4⟩
        have hb5 : Below W.heap.size W w4 := (pw_below_drewN HB.out (nd3 + nd4)).trans (hb4.mono HB2.out.size)
        have HB5 := Aside0.mk hb5
        clear hb4 hb5
        gi_wp2_with fail
        refine GO.out _ (.slice AF st.ps.length cF) (HB5.out.mono hn0) (keeps_below _ HB5.out) ?_ _
        rw [HE.out]
        exact qst_below HP.out HB5.out
      | true =>
        rw [if_pos rfl] at E
        have HE := Aside0.mk E
        obtain ⟨i0, hi, hz0, hz1, hz2⟩ := info_parts info25
        clear E
        gi_wp2_with fail
        refine (CallsIn.inRound l (callsIn_wide.2 (strings_Cut.calls _ _ _ _ _ _ HCF.out))).mono ?_
        rintro e w1 ⟨rfl, ⟨nd, rfl⟩⟩
        gi_wp2_with fail
        refine (CallsIn.inRound l (callsIn_wide.2 (text_Trim.calls k2 _ _ _ HK2.out))).mono ?_
        rintro e w1 ⟨rfl, ⟨nd2, rfl⟩⟩
        gi_wp2_with fail
        refine (CallsIn.inRound l (callsIn_wide.2 (text_Lower.calls _ _ _ HLOW.out))).mono ?_
        rintro e w1 ⟨rfl, hb1⟩
        have hb : Below W.heap.size W w1 := (pw_below_drewN (Below.refl W.heap.size W) _).trans hb1
        have hq1 := qst_below HP.out hb
        have c3' : w1.cell? ⟨w.heap.size + 1 + 1 + 1 + 1, 0, none⟩ = some (.map (some (w.heap.size + 1 + 1 + 1))) := cell_of hq1.c3 rfl
        have HB := Aside0.mk hb
        have HQ1 := Aside0.mk hq1
        clear hb hb1 hq1
        gi_wp2_with fail
        refine (CallsIn.inRound l (callsIn_wide.2 (header_isToken.calls k3 _ _ _ HK3.out))).mono ?_
        rintro e w2 ⟨rfl, ⟨nd3, rfl⟩⟩
        have hb2 : Below W.heap.size W (w1.drewN nd3) := pw_below_drewN HB.out nd3
        have hq2 := qst_below HP.out hb2
        have hlook := qst_look hq2 nm hnmx
        have HB2 := Aside0.mk hb2
        have HQ2 := Aside0.mk hq2
        clear hb2 hq2
        rw [HI.out] at hlook
        gi_wp2_with fail
        refine (CallsIn.inRound l (callsIn_wide.2 (text_Trim.calls k4 _ _ _ HK4.out))).mono ?_
        rintro e w3 ⟨rfl, ⟨nd4, rfl⟩⟩
        gi_wp2_with fail
        refine (CallsIn.inRound l (callsIn_wide.2 (header_paramValue.calls k5 _ _ _ _ HK5.out))).mono ?_
        rintro e w4 ⟨rfl, hb4⟩
        have hb5 : Below W.heap.size W w4 := (pw_below_drewN HB.out (nd3 + nd4)).trans (hb4.mono HB2.out.size)
        have hq5 := qst_below HP.out hb5
        have cP2 : w4.cell? ⟨w.heap.size + 1 + 1, 0, none⟩ = some (.slice AF st.ps.length cF) := cell_of hq5.c2 rfl
        have hoP := hq5.oP
        have hn4 : w.heap.size ≤ w4.heap.size := Nat.le_trans hn0 hb5.size
        have HB5 := Aside0.mk hb5
        have HQ5 := Aside0.mk hq5
        clear hb4 hb5 hq5
        gi_wp2_with (gi_at_builtin; refine wpListIn_append_own _ rfl _ _ 22 rfl w.heap.size 25 i0 (.agg #[(.string ⟨#[]⟩), (.string ⟨#[]⟩)]) 2 32 Tryz.underlying22 hi hz0 hz1 hz2 rfl (by decide) _ _ _ rfl (hoP.alloc _) ⟨w4.heap.size, 0, none⟩ 1 1 [.string nm, .string v] rfl rfl ?c1 ?c2 ?c3 ?c4 ?c5 ?_)
        case c1 =>
          intro j u hj
          match j, hj with
          | 0, hj => simp at hj; subst hj; exact World.cell?_alloc_new w4 _ _ _
          | 1, hj => simp at hj; subst hj; exact World.cell?_alloc_new w4 _ _ _
        case c2 => intro u hu; simp at hu; rcases hu with rfl | rfl <;> rfl
        case c3 => unfold maxLen; omega
        case c4 => omega
        case c5 => simp; omega
        intro v' w5 hown' hgrow _
        obtain ⟨gv, capv, rfl⟩ := ownsRow_succ hown'
        obtain ⟨k1', k2', k3', k4', k5'⟩ := qst_app HQ5.out (by omega) hn4 W0.heap.size hown' hgrow
        have c37 : (w5.setCell ⟨w.heap.size + 1 + 1, 0, none⟩ (.slice (some ⟨gv, 0, none⟩) (st.ps.length + 1) capv)).cell? ⟨w.heap.size + 1 + 1 + 1 + 1, 0, none⟩ = some (.map (some (w.heap.size + 1 + 1 + 1))) := cell_of k3'.c3 rfl
        have hmp := k3'.mp
        have hn6 : w.heap.size ≤ (w5.setCell ⟨w.heap.size + 1 + 1, 0, none⟩ (.slice (some ⟨gv, 0, none⟩) (st.ps.length + 1) capv)).heap.size := Nat.le_trans hn4 k4'.size
        have HK3' := Aside0.mk k3'
        have HK4' := Aside0.mk k4'
        have HK5' := Aside0.mk k5'
        have hnl : (namesOf st.ps).length = st.ps.length := by simp [namesOf]
        have hnlt : (namesOf st.ps).length < maxLen := by rw [hnl]; unfold maxLen; omega
        clear hnl
        have hkey := WideMaps.keyOf_string_mk Tryz.underlying9 hnmx
        have hval := plainElem_bool (H := Unit) Tryz.underlying4 true
        clear hown' hgrow k3' k4' k5' hoP
        gi_wp2_with (gi_at_mapUpdate; refine wpListIn_mapUpdate_own _ rfl _ _ _ 54 rfl 9 4 K9 Tryz.underlying54 (plainElem Tryz.prog 4) (w.heap.size + 1 + 1 + 1) _ _ rfl hmp hnlt _ _ _ rfl rfl hkey _ [] hval ?_)
        intro w7 hm7 hg7
        obtain ⟨q1, q2, q3⟩ := qst_map HK3'.out (by omega) hn6 (nm := nm) W0.heap.size (by omega) hm7 hg7
        have HQ1' := Aside0.mk q1
        have HQ2' := Aside0.mk q2
        have HQ3' := Aside0.mk q3
        clear hm7 hg7 q1 q2 q3
        gi_wp2_with fail
        refine GO.out _ (.slice (some ⟨gv, 0, none⟩) (st.ps.length + 1) capv) (((HB5.out.mono hn0).trans HK4'.out).trans HQ2'.out) (((keeps_below _ HB5.out).trans HK5'.out).trans HQ3'.out) ?_ _
        rw [HE.out]
        have e : namesOf (st.ps ++ [⟨nm, v⟩]) = namesOf st.ps ++ [nm] := by simp [namesOf]
        dsimp only
        rw [e]
        exact HQ1'.out
  case done =>
    rintro D zs W hD hS ⟨⟨vP, hP⟩, hB⟩ hK
    have hn0 := hB.size
    have hps : paramsS a0 = ((foldQ ⟨⟨#[]⟩, true, []⟩ (zs.map (pieceNo a0))).main, (foldQ ⟨⟨#[]⟩, true, []⟩ (zs.map (pieceNo a0))).ps) := by
      unfold paramsS
      rw [hS]
    rw [h] at hps
    clear h
    generalize foldQ ⟨⟨#[]⟩, true, []⟩ (zs.map (pieceNo a0)) = st at *
    obtain ⟨hr1, hr2⟩ := Prod.mk.inj hps
    have HR1 := Lib.hid hr1
    have HR2 := Lib.hid hr2
    clear hps hr1 hr2
    obtain ⟨AF, cF, rfl⟩ := own_slice hP.oP
    have c0' : W.cell? ⟨w.heap.size, 0, none⟩ = some (.string st.main) := cell_of hP.c0 rfl
    have c2' : W.cell? ⟨w.heap.size + 1 + 1, 0, none⟩ = some (.slice AF st.ps.length cF) := cell_of hP.c2 rfl
    have HP := Aside0.mk hP
    have HB := Aside0.mk hB
    have HK := Aside0.mk hK
    clear hP hB hK
    have hmx : Tryz.prog.follows .mixedOrders = true := by kernel_rfl
    gi_wp2_with fail
    gi_region
    gi_wp2
    have hK2 : W.drew.heap[D]? = some (.deferred (some [])) := HK.out
    refine ⟨by simp, .inl ⟨D, _, rfl, run_takeDeferred hK2, ?_⟩⟩
    have hP2 := qst_own _ _ (some D) (qst_below HP.out (pw_below_drewN (Below.refl _ W) 1)) (grownBy_putObj' W.drew D (.deferred none)) (fun r e => by cases e; exact ⟨by omega, _, hK2, rfl⟩)
    have hbel : Below w.heap.size w (W.drew.putObj D (.deferred none)) := HB.out.drew.trans (belowK_b (w := w) (Nat.le_refl _) _ D _ _ (by omega) hK2 rfl rfl)
    rw [HR1.out, HR2.out]
    exact ⟨_, by simp [results, Tryz.f11, go_sem], _, rfl, qst_result hP2, hbel⟩
end Go.Proofs.YtieompfmhnpnaaaGreat.H
end
section
namespace Go.Proofs.YtieompfmhnpnaaaGreat.H
open Go.RowKit Go.Proofs.YtieompfmhnpnaaaGreatW.PrintWords Go.Proofs.YtieompfmhnpnaaaGreatW.PrintLast Go.Proofs.YtieompfmhnpnaaaGreatW.PrintMore
set_option linter.unusedVariables false
set_option linter.unusedSimpArgs false
def valL (v : ByteArray) : List UInt8 := if isTokenB v then bl v else [34] ++ bl (escS v) ++ [34]
def paramL (p : S25) : List UInt8 := if isTokenB p.f0 then ([59, 32] ++ bl p.f0 ++ [61]) ++ valL p.f1 else []
def quoteL (main : ByteArray) (l : List S25) : List UInt8 := bl main ++ l.flatMap paramL
def psum (l : List S25) : Nat := (l.map fun f => 4 * (f.f0.size + f.f1.size) + 16).sum
theorem escS_size (s : ByteArray) : (escS s).size ≤ 2 * s.size := by
  unfold escS
  rw [mkB_size, escL_flat]
  have := cntE_le (bl s)
  rw [bl_length] at *
  omega
theorem paramL_length (p : S25) : (paramL p).length ≤ 4 * (p.f0.size + p.f1.size) + 16 := by
  unfold paramL valL
  have := escS_size p.f1
  split
  · split
    · simp only [List.length_append, bl_length, List.length_cons, List.length_nil]; omega
    · simp only [List.length_append, bl_length, List.length_cons, List.length_nil]; omega
  · simp
theorem psum_cons (x : S25) (l : List S25) : psum (x :: l) = 4 * (x.f0.size + x.f1.size) + 16 + psum l := by simp [psum]
theorem psum_len (l : List S25) : 16 * l.length ≤ psum l := by
  induction l with
  | nil => simp
  | cons x l ih => rw [psum_cons, List.length_cons]; omega
theorem psum_at (l : List S25) (k : Nat) (h : k < l.length) : 4 * ((rd_T25 l (k : Int)).f0.size + (rd_T25 l (k : Int)).f1.size) + 16 ≤ psum l := by
  have e : rd_T25 l (k : Int) = l[k] := by simp [rd_T25, List.getD, h]
  rw [e]
  unfold psum
  have : 4 * (l[k].f0.size + l[k].f1.size) + 16 ∈ l.map (fun f => 4 * (f.f0.size + f.f1.size) + 16) := List.mem_map.2 ⟨l[k], List.getElem_mem h, rfl⟩
  exact le_sum this
theorem quoteL_take (m : ByteArray) (l : List S25) (k : Nat) (h : k < l.length) : quoteL m (l.take (k + 1)) = quoteL m (l.take k) ++ paramL (rd_T25 l (k : Int)) := by
  have e : rd_T25 l (k : Int) = l[k] := by simp [rd_T25, List.getD, h]
  rw [e, List.take_succ_eq_append_getElem h]
  unfold quoteL
  rw [List.flatMap_append]
  simp only [List.flatMap_cons, List.flatMap_nil, List.append_nil, List.append_assoc]
theorem quoteL_length (m : ByteArray) (l : List S25) : (quoteL m l).length ≤ m.size + psum l := by
  unfold quoteL
  rw [List.length_append, bl_length]
  have : (l.flatMap paramL).length ≤ psum l := by
    induction l with
    | nil => simp
    | cons x l ih =>
      have := paramL_length x
      rw [psum_cons, List.flatMap_cons, List.length_append]
      omega
  omega
theorem psum_take (l : List S25) (k : Nat) : psum (l.take k) ≤ psum l := by
  unfold psum
  have : l = l.take k ++ l.drop k := (List.take_append_drop k l).symm
  conv => rhs; rw [this]
  rw [List.map_append, List.sum_append]
  omega
theorem Bld.lt {B bb : Nat} {l : List UInt8} {a : World} (h : Bld B bb l a) : bb < a.heap.size := by
  rcases h with ⟨_, v, h2, _⟩ | ⟨_, v, h2, _⟩ <;> exact (Array.getElem?_eq_some_iff.1 h2).1
theorem sq_of {w : World} {fb : Nat} {a v : Value} (h : w.heap[fb]? = some (.cells #[a, v] 25 (0, 0))) : w.heap[fb]? = some (.cells #[a, v] 25 (0, 0)) ∧ w.cell? ⟨fb, 1, none⟩ = some v := ⟨h, by simp [World.cell?, h]⟩
theorem sqB {w w' : World} {B fb : Nat} {a v : Value} (hf : fb < B) (hb : Below B w w') (h : w.heap[fb]? = some (.cells #[a, v] 25 (0, 0)) ∧ w.cell? ⟨fb, 1, none⟩ = some v) : w'.heap[fb]? = some (.cells #[a, v] 25 (0, 0)) ∧ w'.cell? ⟨fb, 1, none⟩ = some v :=
  sq_of ((hb.block fb hf).trans h.1)
theorem sqK {w w' : World} {B bb fb : Nat} {a v : Value} (hne : fb ≠ bb) (hb : BKept B bb w w') (h : w.heap[fb]? = some (.cells #[a, v] 25 (0, 0)) ∧ w.cell? ⟨fb, 1, none⟩ = some v) : w'.heap[fb]? = some (.cells #[a, v] 25 (0, 0)) ∧ w'.cell? ⟨fb, 1, none⟩ = some v :=
  sq_of (hb.others fb _ h.1 (fun e => by injection e with e; exact hne e) (by intro c fz h; cases h))
theorem sqA {w : World} {fb : Nat} {a v : Value} (h : w.heap[fb]? = some (.cells #[a, v] 25 (0, 0)) ∧ w.cell? ⟨fb, 1, none⟩ = some v) (o : Obj) : (w.alloc o).heap[fb]? = some (.cells #[a, v] 25 (0, 0)) ∧ (w.alloc o).cell? ⟨fb, 1, none⟩ = some v :=
  sq_of ((Lib.alloc_old w o fb (Array.getElem?_eq_some_iff.1 h.1).1).trans h.1)
theorem sqD {w : World} {fb : Nat} {a v : Value} (h : w.heap[fb]? = some (.cells #[a, v] 25 (0, 0)) ∧ w.cell? ⟨fb, 1, none⟩ = some v) : w.drew.heap[fb]? = some (.cells #[a, v] 25 (0, 0)) ∧ w.drew.cell? ⟨fb, 1, none⟩ = some v := h
set_option maxHeartbeats 4000000 in
set_option maxRecDepth 100000 in
theorem quote_calls (m : ByteArray) (A0 : Option Addr) (c0 : Nat) (l0 : List S25) (w : World) (hr0 : Kd.C k25 w A0 l0.length l0) (hc0 : l0.length ≤ c0) (hs : m.size + psum l0 ≤ 137438953472) :
    Calls Tryz.prog 16 #[.string m, .slice A0 l0.length c0] w fun e w' => e = .returned (.string (mkB (quoteL m l0))) ∧ Below w.heap.size w w' := by
  have hu25 := Tryz.underlying25
  have HR0 := Aside0.mk hr0
  clear hr0
  go_enter Tryz.func16, Tryz.ntmps16
  go_wp2_with fail
  obtain ⟨W, hW⟩ : ∃ W, W = w.alloc (Obj.cells #[Value.pointer none, Value.slice none 0 0] 66) := ⟨_, rfl⟩
  have hb0 : Bld w.heap.size w.heap.size [] W := by
    rw [hW]
    rcases Lib.fresh_isBuilder 66 5 w with h | h
    · exact .inl (Lib.BuilderAtF.of h)
    · exact .inr (Lib.BuilderAtF.of h)
  have hB0 : Below w.heap.size w W := by rw [hW]; exact (Below.refl _ _).alloc (Nat.le_refl _) _
  rw [← hW]
  clear hW
  refine (wstr w.heap.size w.heap.size [] m W hb0 (by simp; omega) hB0.size).mono ?_
  rintro e w1 ⟨rfl, hb1, hk1⟩
  have hB1 := hB0.trans hk1.below
  have HB1 := Aside0.mk hb1
  clear hb0 hB0 hb1 hk1
  go_wp2_with fail
  go_loopw [12] (fun v wr => ∃ k : Nat, k ≤ l0.length ∧ v = .int .i64 k ∧ Aside0 (Bld w.heap.size w.heap.size (quoteL m (l0.take k)) wr) ∧ Aside0 (Below w.heap.size w wr)) (fun v _ => l0.length - (intOf v).toNat)
  case atStart => exact ⟨0, Nat.zero_le _, rfl, ⟨by simpa [quoteL, bl] using HB1.out⟩, ⟨hB1⟩⟩
  case round =>
    clear HB1 hB1
    obtain ⟨k, hk, rfl, hbl, hbel⟩ := hrel
    by_cases hlt : k < l0.length
    · obtain ⟨ad, rfl, hx0, hx1⟩ := at_T25 HR0.out (k : Int) (by omega) (by omega)
      obtain ⟨x, hx⟩ : ∃ x, x = rd_T25 l0 (k : Int) := ⟨_, rfl⟩
      rw [← hx] at hx0 hx1
      replace hx0 := (hbel.out.cell (World.block_lt_of_cell? w _ hx0)).trans hx0
      replace hx1 := (hbel.out.cell (World.block_lt_of_cell? w _ hx1)).trans hx1
      simp only [Int.toNat_natCast] at hx0 hx1
      have hsum := psum_at l0 k hlt
      rw [← hx] at hsum
      have hlen := psum_len l0
      have hout := quoteL_length m (l0.take k)
      have hout2 := psum_take l0 k
      have hnext := quoteL_take m l0 k hlt
      rw [← hx] at hnext
      have HX := Lib.hid hx
      have HN := Lib.hid hnext
      clear hx hnext
      obtain ⟨kn, hkn⟩ := (isToken_ev x.f0 (by omega)).rounds
      obtain ⟨kv, hkv⟩ := (isToken_ev x.f1 (by omega)).rounds
      have HKN := Aside0.mk hkn
      have HKV := Aside0.mk hkv
      clear hkn hkv
      have hBsz := hbel.out.size
      obtain ⟨fb, hfb⟩ : ∃ fb, fb = wr.heap.size := ⟨_, rfl⟩
      obtain ⟨w1, hw1⟩ : ∃ w1, w1 = wr.alloc (.cells #[.string x.f0, .string x.f1] 25) := ⟨_, rfl⟩
      have hb1 : Below wr.heap.size wr w1 := by rw [hw1]; exact (Below.refl _ _).alloc (Nat.le_refl _) _
      have hc0' : w1.cell? ⟨fb, 0, none⟩ = some (.string x.f0) := by rw [hw1, hfb]; simp
      have hc1' : w1.cell? ⟨fb, 1, none⟩ = some (.string x.f1) := by rw [hw1, hfb]; simp
      have hx25 : w1.heap[fb]? = some (.cells #[.string x.f0, .string x.f1] 25 (0, 0)) := by rw [hw1, hfb]; exact heap_alloc_new _ _
      have hlt1 : fb < w1.heap.size := by rw [hw1, hfb, World.size_alloc]; omega
      have HB1 := Aside0.mk hb1
      have HW1 := Aside0.mk hw1
      have HFB := Aside0.mk hfb
      have HX25 := Aside0.mk hx25
      clear hb1 hw1 hfb hx25
      by_cases hnm : isTokenB x.f0 = true
      · rw [hnm] at HKN
        have HNM := Lib.hid hnm
        clear hnm
        go_wp2_with fail
        rw [← HW1.out, ← HFB.out]
        refine (header_isToken.calls kn _ _ _ HKN.out).mono ?_
        rintro e w2 ⟨rfl, ⟨n, rfl⟩⟩
        go_wp2_with fail
        obtain ⟨hd, hhd⟩ : ∃ hd : ByteArray, (⟨#[59, 32]⟩ : ByteArray) ++ x.f0 ++ ⟨#[61]⟩ = hd := ⟨_, rfl⟩
        have hhs : hd.size = x.f0.size + 3 := by rw [← hhd, ByteArray.size_append, ByteArray.size_append, show (⟨#[59, 32]⟩ : ByteArray).size = 2 from rfl, show (⟨#[61]⟩ : ByteArray).size = 1 from rfl]; omega
        have hhb : hd.data.toList = [59, 32] ++ bl x.f0 ++ [61] := by
          rw [← hhd]
          show bl ((⟨#[59, 32]⟩ : ByteArray) ++ x.f0 ++ ⟨#[61]⟩) = _
          rw [bl_append, bl_append]
        rw [hhd]
        have HHB := Lib.hid hhb
        clear hhd hhb
        have hbld1 := (hbl.out.keep HB1.out).keep (pw_below_drewN (Below.refl _ _) n)
        refine (wstr w.heap.size w.heap.size _ hd _ hbld1 (by omega) (Nat.le_trans hBsz HB1.out.size)).mono ?_
        rintro e w3 ⟨rfl, hb3, hk3⟩
        have hnb : fb ≠ w.heap.size := by have := HFB.out; have := Bld.lt hbl.out; omega
        have hx3 : w3.heap[fb]? = some (.cells #[.string x.f0, .string x.f1] 25 (0, 0)) := hk3.others fb _ HX25.out (fun e => by injection e with e; have := HFB.out; have := Bld.lt hbl.out; omega) (by intro c fz h; cases h)
        have hs3 : fb < w3.heap.size := (Array.getElem?_eq_some_iff.1 hx3).1
        have c3 : w3.cell? ⟨fb, 1, none⟩ = some (.string x.f1) := by simp [World.cell?, hx3]
        have hbw3 : Below w.heap.size w w3 := (pw_below_drewN (hbel.out.trans (HB1.out.mono hBsz)) n).trans hk3.below
        rw [HHB.out] at hb3
        have hb3s := hbw3.size
        have HBW3 := Aside0.mk hbw3
        have HBL3 := Aside0.mk hb3
        clear hbw3 hb3 hk3 hbld1
        go_wp2_with fail
        refine (header_isToken.calls kv _ _ _ HKV.out).mono ?_
        rintro e w4 ⟨rfl, ⟨n4, rfl⟩⟩
        by_cases hv : isTokenB x.f1 = true
        · rw [hv]
          have HV := Lib.hid hv
          clear hv
          go_wp2_with fail
          refine (wstr w.heap.size w.heap.size _ x.f1 _ (HBL3.out.keep (pw_below_drewN (Below.refl _ _) n4)) (by simp; omega) hb3s).mono ?_
          rintro e w5 ⟨rfl, hb5, hk5⟩
          have HB5 := Aside0.mk hb5
          have HK5 := Aside0.mk hk5
          clear hb5 hk5
          go_wp2_with fail
          go_roundw
          case rel =>
            refine ⟨k + 1, by omega, by go_num, ⟨?_⟩, ⟨(pw_below_drewN HBW3.out n4).trans HK5.out.below⟩⟩
            rw [HN.out]
            have : paramL x = [59, 32] ++ bl x.f0 ++ [61] ++ bl x.f1 := by unfold paramL valL; rw [HNM.out, HV.out]; rfl
            rw [this, ← List.append_assoc]
            exact HB5.out
          case measure => simp [intOf]; omega
        · have hv' : isTokenB x.f1 = false := by simpa using hv
          rw [hv']
          have HV := Lib.hid hv'
          clear hv hv'
          go_wp2_with fail
          obtain ⟨W0, hW0⟩ : ∃ W0, W0 = w3.drewN n4 := ⟨_, rfl⟩
          have hbW := HBL3.out.keep (pw_below_drewN (Below.refl w3.heap.size w3) n4)
          have hlW : fb < W0.heap.size := by rw [hW0]; exact hs3
          have hsW : w.heap.size ≤ W0.heap.size := by rw [hW0]; exact hb3s
          have hS : W0.heap[fb]? = some (.cells #[.string x.f0, .string x.f1] 25 (0, 0)) ∧ W0.cell? ⟨fb, 1, none⟩ = some (.string x.f1) := by rw [hW0]; exact sq_of hx3
          have z34 : (⟨#[34]⟩ : ByteArray).size = 1 := rfl
          rw [← hW0] at hbW ⊢
          have HBW := Aside0.mk hbW
          have HW0 := Aside0.mk hW0
          clear hbW hW0 c3
          have hesz := escS_size x.f1
          obtain ⟨es, hes⟩ : ∃ es, escS x.f1 = es := ⟨_, rfl⟩
          rw [hes] at hesz
          have hf1 : (9223372036854775807 < 1 + es.size) = False := eq_false (by omega)
          have hf2 : (9223372036854775807 < 1 + es.size + 1) = False := eq_false (by omega)
          go_region_held3 (fun w' => w'.heap[fb]? = some (.cells #[.string x.f0, .string x.f1] 25 (0, 0)) ∧ w'.cell? ⟨fb, 1, none⟩ = some (.string x.f1)) (first | (exact sqD hS) | (exact sqD (sqA hS _)) | (exact sqA (by assumption) _) | (exact sqB hlW (by assumption) (sqD hS)) | (exact sqB hlW (by assumption) (by assumption)) | (exact sqK hnb (by assumption) (by assumption)) | go_keep)
            (first
              | (go_at_call 52; refine (new_replacer_at _ _ _ _ W0.drew _ rfl).mono ?_; rintro e w5 ⟨g5, rfl, hg5, hb5⟩)
              | (go_at_call 53; refine (replace_strings _ g5 _ _ (by omega) hb5.size hg5).mono ?_; rintro e w6 ⟨rfl, hb6⟩; rw [hes])
              | (go_at_call 51; refine (wstr w.heap.size w.heap.size _ _ _ (Bld.keep (a := W0.drew) HBW.out (hb5.trans hb6)) (by simp; omega) (by have := (hb5.trans hb6).size; exact Nat.le_trans hsW this)).mono ?_; rintro e w7 ⟨rfl, hb7, hk7⟩))
          have hcat : ((⟨#[34]⟩ : ByteArray) ++ es ++ ⟨#[34]⟩).data.toList = [34] ++ bl (escS x.f1) ++ [34] := by
            rw [hes]
            show bl ((⟨#[34]⟩ : ByteArray) ++ es ++ ⟨#[34]⟩) = _
            rw [bl_append, bl_append]
          rw [hcat] at hb7
          have hbel7 : Below w.heap.size w w7 := by
            have h1 : Below w.heap.size w W0 := by rw [HW0.out]; exact pw_below_drewN HBW3.out n4
            exact (Below.trans (b := W0.drew) h1.drew ((hb5.trans hb6).mono hsW)).trans hk7.below
          have HB7 := Aside0.mk hb7
          have HBEL7 := Aside0.mk hbel7
          clear hb5 hb6 hb7 hk7 hbel7 hcat hg5 hf1 hf2
          go_wp2_with fail
          go_roundw
          case rel =>
            refine ⟨k + 1, by omega, by go_num, ⟨?_⟩, ⟨HBEL7.out⟩⟩
            rw [HN.out]
            have : paramL x = [59, 32] ++ bl x.f0 ++ [61] ++ ([34] ++ bl (escS x.f1) ++ [34]) := by unfold paramL valL; rw [HNM.out, HV.out]; rfl
            rw [this, ← List.append_assoc]
            exact HB7.out
          case measure => simp [intOf]; omega
      · have hnm' : isTokenB x.f0 = false := by simpa using hnm
        rw [hnm'] at HKN
        have HNM := Lib.hid hnm'
        clear hnm hnm'
        go_wp2_with fail
        rw [← HW1.out, ← HFB.out]
        refine (header_isToken.calls kn _ _ _ HKN.out).mono ?_
        rintro e w2 ⟨rfl, ⟨n, rfl⟩⟩
        go_wp2_with fail
        go_roundw
        case rel =>
          refine ⟨k + 1, by omega, by go_num, ⟨?_⟩, ⟨?_⟩⟩
          · rw [HN.out]
            have : paramL x = [] := by unfold paramL; rw [HNM.out]; rfl
            rw [this, List.append_nil]
            exact (hbl.out.keep HB1.out).keep (pw_below_drewN (Below.refl _ _) n)
          · exact pw_below_drewN (hbel.out.trans (HB1.out.mono hBsz)) n
        case measure => simp [intOf]; omega
    · have hkk : k = l0.length := by omega
      subst hkk
      rw [List.take_length] at hbl
      go_wp2_with fail
      refine (Tryz.Builder_String_any_k w.heap.size w.heap.size (quoteL m l0) wr hbl.out hbel.out.size).mono ?_
      rintro e w6 ⟨rfl, -, hb6, -⟩
      go_wp2_with fail
      go_ret
      exact ⟨rfl, hbel.out.trans hb6⟩
def header_Quote.f (m : ByteArray) (l0 : List S25) : Option ByteArray := if m.size + psum l0 ≤ 137438953472 then some (mkB (quoteL m l0)) else none
theorem header_Quote.calls (m : ByteArray) (A0 : Option Addr) (c0 : Nat) (l0 : List S25) (r : ByteArray) (w : World) (hr0 : Kd.C k25 w A0 l0.length l0) (hc0 : l0.length ≤ c0) (h : header_Quote.f m l0 = some r) :
    Calls Tryz.prog 16 #[.string m, .slice A0 l0.length c0] w fun e w' => e = .returned (.string r) ∧ Below w.heap.size w w' := by
  unfold header_Quote.f at h
  by_cases hs : m.size + psum l0 ≤ 137438953472
  · rw [if_pos hs] at h
    obtain rfl := Option.some.inj h
    exact quote_calls m A0 c0 l0 w hr0 hc0 hs
  · rw [if_neg hs] at h
    cases h
end Go.Proofs.YtieompfmhnpnaaaGreat.H
end
section
namespace Go.Proofs.YtieompfmhnpnaaaGreat.H
open Go.RowKit Go.Proofs.YtieompfmhnpnaaaGreatW.PrintWords Go.Proofs.YtieompfmhnpnaaaGreatW.PrintLast Go.Proofs.YtieompfmhnpnaaaGreatW.PrintMore
set_option linter.unusedVariables false
set_option linter.unusedSimpArgs false
theorem lit_C35 (W : World) (l : List S35) (hl : l.length ≤ 1000) : Kd.C k35 (W.alloc (.cells (fieldVals l).toArray 35)) (some ⟨W.heap.size, 0, none⟩) l.length l := by
  refine ⟨rfl, by omega, fun _ => ⟨_, rfl, fun j p hj => ⟨[.string p.f0, .string p.f1], rfl, k35_mk _ p, fun i u hu => ?_⟩⟩⟩
  have key : ∀ (l : List S35) (j : Nat), l[j]? = some p → (fieldVals l)[j * 2 + i]? = some u := by
    intro l
    induction l with
    | nil => intro j h; simp at h
    | cons x l ih =>
      intro j hj
      match j, hj with
      | 0, hj =>
        obtain rfl : x = p := by simpa using hj
        rw [Nat.zero_mul, Nat.zero_add]
        match i, hu with
        | 0, hu => exact hu
        | 1, hu => exact hu
      | j + 1, hj =>
        have := ih j (by simpa using hj)
        have e1 : fieldVals (x :: l) = .string x.f0 :: .string x.f1 :: fieldVals l := rfl
        rw [e1, show (j + 1) * 2 + i = j * 2 + i + 1 + 1 by omega]
        exact this
  rw [show k35.sz = 2 from rfl, add_plain, World.cell?_alloc_new]
  simpa using key l j hj
theorem lit_C25 (W : World) (l : List S25) (hl : l.length ≤ 1000) : Kd.C k25 (W.alloc (.cells (paramVals l).toArray 25)) (some ⟨W.heap.size, 0, none⟩) l.length l := by
  refine ⟨rfl, by omega, fun _ => ⟨_, rfl, fun j p hj => ⟨[.string p.f0, .string p.f1], rfl, k25_mk _ p, fun i u hu => ?_⟩⟩⟩
  have key : ∀ (l : List S25) (j : Nat), l[j]? = some p → (paramVals l)[j * 2 + i]? = some u := by
    intro l
    induction l with
    | nil => intro j h; simp at h
    | cons x l ih =>
      intro j hj
      match j, hj with
      | 0, hj =>
        obtain rfl : x = p := by simpa using hj
        rw [Nat.zero_mul, Nat.zero_add]
        match i, hu with
        | 0, hu => exact hu
        | 1, hu => exact hu
      | j + 1, hj =>
        have := ih j (by simpa using hj)
        have e1 : paramVals (x :: l) = .string x.f0 :: .string x.f1 :: paramVals l := rfl
        rw [e1, show (j + 1) * 2 + i = j * 2 + i + 1 + 1 by omega]
        exact this
  rw [show k25.sz = 2 from rfl, add_plain, World.cell?_alloc_new]
  simpa using key l j hj
set_option maxHeartbeats 4000000 in
set_option maxRecDepth 100000 in
theorem small_calls (w : World) : Calls Tryz.prog 10 #[] w fun e w' => e = .returned (.bool true) ∧ Below w.heap.size w w' := by
  have p1 : header_Parse.f (⟨#[65, 58, 32, 49, 10, 32, 32, 50, 10, 98, 58, 10, 10, 120]⟩ : ByteArray) = some ([⟨(⟨#[65]⟩ : ByteArray), (⟨#[49, 32, 50]⟩ : ByteArray)⟩, ⟨(⟨#[98]⟩ : ByteArray), (⟨#[]⟩ : ByteArray)⟩], 13) := by kernel_rfl
  have p2 : header_Parse.f (⟨#[65, 58, 32, 49, 10, 110, 111, 32, 102, 105, 101, 108, 100, 10]⟩ : ByteArray) = some ([⟨(⟨#[65]⟩ : ByteArray), (⟨#[49]⟩ : ByteArray)⟩], 5) := by kernel_rfl
  have p3 : header_Params.f (⟨#[116, 101, 120, 116, 47, 112, 108, 97, 105, 110, 59, 32, 67, 104, 97, 114, 115, 101, 116, 61, 117, 116, 102, 45, 56, 59, 32, 120, 59, 32, 110, 97, 109, 101, 61, 34, 97, 32, 92, 34, 98, 34]⟩ : ByteArray) = some ((⟨#[116, 101, 120, 116, 47, 112, 108, 97, 105, 110]⟩ : ByteArray), [⟨(⟨#[99, 104, 97, 114, 115, 101, 116]⟩ : ByteArray), (⟨#[117, 116, 102, 45, 56]⟩ : ByteArray)⟩, ⟨(⟨#[110, 97, 109, 101]⟩ : ByteArray), (⟨#[97, 32, 34, 98]⟩ : ByteArray)⟩]) := by kernel_rfl
  have p4 : header_Quote.f (⟨#[116, 101, 120, 116, 47, 112, 108, 97, 105, 110]⟩ : ByteArray) [⟨(⟨#[99, 104, 97, 114, 115, 101, 116]⟩ : ByteArray), (⟨#[117, 116, 102, 45, 56]⟩ : ByteArray)⟩, ⟨(⟨#[110, 97, 109, 101]⟩ : ByteArray), (⟨#[97, 32, 98]⟩ : ByteArray)⟩] = some (⟨#[116, 101, 120, 116, 47, 112, 108, 97, 105, 110, 59, 32, 99, 104, 97, 114, 115, 101, 116, 61, 117, 116, 102, 45, 56, 59, 32, 110, 97, 109, 101, 61, 34, 97, 32, 98, 34]⟩ : ByteArray) := by kernel_rfl
  have p5 : header_Write.f [⟨(⟨#[65]⟩ : ByteArray), (⟨#[32, 120, 10, 121, 32]⟩ : ByteArray)⟩, ⟨(⟨#[98, 32, 99]⟩ : ByteArray), (⟨#[]⟩ : ByteArray)⟩] = some (⟨#[65, 58, 32, 120, 32, 121, 10]⟩ : ByteArray) := by kernel_rfl
  have p6 : missiveref09_Same.f 10 [⟨(⟨#[65]⟩ : ByteArray), (⟨#[49, 32, 50]⟩ : ByteArray)⟩, ⟨(⟨#[98]⟩ : ByteArray), (⟨#[]⟩ : ByteArray)⟩] [⟨(⟨#[65]⟩ : ByteArray), (⟨#[49, 32, 50]⟩ : ByteArray)⟩, ⟨(⟨#[98]⟩ : ByteArray), (⟨#[]⟩ : ByteArray)⟩] = some true := by kernel_rfl
  have p7 : missiveref09_Same.f 10 [⟨(⟨#[65]⟩ : ByteArray), (⟨#[49]⟩ : ByteArray)⟩] [⟨(⟨#[65]⟩ : ByteArray), (⟨#[49]⟩ : ByteArray)⟩] = some true := by kernel_rfl
  have p8 : missiveref09_SameParams.f 10 [⟨(⟨#[99, 104, 97, 114, 115, 101, 116]⟩ : ByteArray), (⟨#[117, 116, 102, 45, 56]⟩ : ByteArray)⟩, ⟨(⟨#[110, 97, 109, 101]⟩ : ByteArray), (⟨#[97, 32, 34, 98]⟩ : ByteArray)⟩] [⟨(⟨#[99, 104, 97, 114, 115, 101, 116]⟩ : ByteArray), (⟨#[117, 116, 102, 45, 56]⟩ : ByteArray)⟩, ⟨(⟨#[110, 97, 109, 101]⟩ : ByteArray), (⟨#[97, 32, 34, 98]⟩ : ByteArray)⟩] = some true := by kernel_rfl
  have P1 := Aside0.mk p1
  have P2 := Aside0.mk p2
  have P3 := Aside0.mk p3
  have P4 := Aside0.mk p4
  have P5 := Aside0.mk p5
  have P6 := Aside0.mk p6
  have P7 := Aside0.mk p7
  have P8 := Aside0.mk p8
  clear p1 p2 p3 p4 p5 p6 p7 p8
  go_enter Tryz.func10, Tryz.ntmps10
  go_wp2_with fail
  refine (header_Parse.calls _ _ _ _ P1.out).mono ?_
  rintro e w1 ⟨v1, rfl, ho1, hb1⟩
  have HO1 := Aside0.mk ho1
  have HB1 := Aside0.mk hb1
  clear ho1 hb1
  go_wp2_with fail
  refine (header_Parse.calls _ _ _ _ P2.out).mono ?_
  rintro e w2 ⟨v2, rfl, ho2, hb2⟩
  have HO2 := Aside0.mk ho2
  have HB2 := Aside0.mk hb2
  clear ho2 hb2
  go_wp2_with fail
  refine (header_Params.calls _ _ _ _ P3.out).mono ?_
  rintro e w3 ⟨v3, rfl, ho3, hb3⟩
  have HO3 := Aside0.mk ho3
  have HB3 := Aside0.mk hb3
  clear ho3 hb3
  go_wp2_with fail
  refine (header_Quote.calls _ _ _ _ _ _ (lit_C25 w3 _ (by decide)) (Nat.le_refl _) P4.out).mono ?_
  rintro e w4 ⟨rfl, hb4⟩
  have HB4 := Aside0.mk hb4
  clear hb4
  obtain ⟨A1, c1, rfl⟩ := Kd.R_slice HO1.out
  obtain ⟨A2, c2, rfl⟩ := Kd.R_slice HO2.out
  obtain ⟨A3, c3, rfl⟩ := Kd.R_slice HO3.out
  go_wp2_with fail
  have b24 : Below w2.heap.size w2 w4 := HB3.out.trans (((Below.refl w2.heap.size w3).alloc HB3.out.size _).trans (HB4.out.mono (by rw [World.size_alloc]; have := HB3.out.size; omega)))
  have b14 : Below w1.heap.size w1 w4 := HB2.out.trans (b24.mono HB2.out.size)
  have b34 : Below w3.heap.size w3 w4 := ((Below.refl w3.heap.size w3).alloc (Nat.le_refl _) _).trans (HB4.out.mono (by rw [World.size_alloc]; omega))
  have r1 := Kd.R_reads' HO1.out
  have r2 := Kd.R_reads' HO2.out
  have r3 := Kd.R_reads' HO3.out
  have R1 := Aside0.mk r1
  have R2 := Aside0.mk r2
  have R3 := Aside0.mk r3
  clear r1 r2 r3
  refine (missiveref09_Same.calls 10 _ _ _ _ _ _ _ _ (Kd.C_below (Kd.C_below R1.out.2.2 b14) ((Below.refl _ _).alloc (Nat.le_refl _) _)) R1.out.2.1 (lit_C35 w4 _ (by decide)) (Nat.le_refl _) P6.out).mono ?_
  rintro e w5 ⟨rfl, ⟨n5, rfl⟩⟩
  go_wp2_with fail
  have b45 : Below w4.heap.size w4 ((w4.alloc (Obj.cells (fieldVals [(⟨(⟨#[65]⟩ : ByteArray), (⟨#[49, 32, 50]⟩ : ByteArray)⟩ : S35), (⟨(⟨#[98]⟩ : ByteArray), (⟨#[]⟩ : ByteArray)⟩ : S35)]).toArray 35)).drewN n5) := pw_below_drewN ((Below.refl _ _).alloc (Nat.le_refl _) _) n5
  have hs5 : ((w4.alloc (Obj.cells (fieldVals [(⟨(⟨#[65]⟩ : ByteArray), (⟨#[49, 32, 50]⟩ : ByteArray)⟩ : S35), (⟨(⟨#[98]⟩ : ByteArray), (⟨#[]⟩ : ByteArray)⟩ : S35)]).toArray 35)).drewN n5).heap.size = w4.heap.size + 1 := World.size_alloc _ _
  rw [← hs5]
  generalize ((w4.alloc (Obj.cells (fieldVals [(⟨(⟨#[65]⟩ : ByteArray), (⟨#[49, 32, 50]⟩ : ByteArray)⟩ : S35), (⟨(⟨#[98]⟩ : ByteArray), (⟨#[]⟩ : ByteArray)⟩ : S35)]).toArray 35)).drewN n5) = W5 at b45 hs5 ⊢
  clear hs5
  have b25 : Below w2.heap.size w2 W5 := b24.trans (b45.mono b24.size)
  refine (missiveref09_Same.calls 10 _ _ _ _ _ _ _ _ (Kd.C_below (Kd.C_below R2.out.2.2 b25) ((Below.refl _ _).alloc (Nat.le_refl _) _)) R2.out.2.1 (lit_C35 W5 [(⟨(⟨#[65]⟩ : ByteArray), (⟨#[49]⟩ : ByteArray)⟩ : S35)] (by decide)) (Nat.le_refl _) P7.out).mono ?_
  rintro e w6 ⟨rfl, ⟨n6, rfl⟩⟩
  go_wp2_with fail
  have b56 : Below W5.heap.size W5 ((W5.alloc (Obj.cells (fieldVals [(⟨(⟨#[65]⟩ : ByteArray), (⟨#[49]⟩ : ByteArray)⟩ : S35)]).toArray 35)).drewN n6) := pw_below_drewN ((Below.refl _ _).alloc (Nat.le_refl _) _) n6
  have hs6 : ((W5.alloc (Obj.cells (fieldVals [(⟨(⟨#[65]⟩ : ByteArray), (⟨#[49]⟩ : ByteArray)⟩ : S35)]).toArray 35)).drewN n6).heap.size = W5.heap.size + 1 := World.size_alloc _ _
  rw [← hs6]
  generalize ((W5.alloc (Obj.cells (fieldVals [(⟨(⟨#[65]⟩ : ByteArray), (⟨#[49]⟩ : ByteArray)⟩ : S35)]).toArray 35)).drewN n6) = W6 at b56 hs6 ⊢
  clear hs6
  have b46 : Below w4.heap.size w4 W6 := b45.trans (b56.mono b45.size)
  have b36 : Below w3.heap.size w3 W6 := b34.trans (b46.mono b34.size)
  refine (missiveref09_SameParams.calls 10 _ _ _ _ _ _ _ _ (Kd.C_below (Kd.C_below R3.out.2.2 b36) ((Below.refl _ _).alloc (Nat.le_refl _) _)) R3.out.2.1 (lit_C25 W6 [(⟨(⟨#[99, 104, 97, 114, 115, 101, 116]⟩ : ByteArray), (⟨#[117, 116, 102, 45, 56]⟩ : ByteArray)⟩ : S25), (⟨(⟨#[110, 97, 109, 101]⟩ : ByteArray), (⟨#[97, 32, 34, 98]⟩ : ByteArray)⟩ : S25)] (by decide)) (Nat.le_refl _) P8.out).mono ?_
  rintro e w7 ⟨rfl, ⟨n7, rfl⟩⟩
  go_wp2_with fail
  have b67 : Below W6.heap.size W6 ((W6.alloc (Obj.cells (paramVals [(⟨(⟨#[99, 104, 97, 114, 115, 101, 116]⟩ : ByteArray), (⟨#[117, 116, 102, 45, 56]⟩ : ByteArray)⟩ : S25), (⟨(⟨#[110, 97, 109, 101]⟩ : ByteArray), (⟨#[97, 32, 34, 98]⟩ : ByteArray)⟩ : S25)]).toArray 25)).drewN n7) := pw_below_drewN ((Below.refl _ _).alloc (Nat.le_refl _) _) n7
  have hs7 : ((W6.alloc (Obj.cells (paramVals [(⟨(⟨#[99, 104, 97, 114, 115, 101, 116]⟩ : ByteArray), (⟨#[117, 116, 102, 45, 56]⟩ : ByteArray)⟩ : S25), (⟨(⟨#[110, 97, 109, 101]⟩ : ByteArray), (⟨#[97, 32, 34, 98]⟩ : ByteArray)⟩ : S25)]).toArray 25)).drewN n7).heap.size = W6.heap.size + 1 := World.size_alloc _ _
  rw [← hs7]
  generalize ((W6.alloc (Obj.cells (paramVals [(⟨(⟨#[99, 104, 97, 114, 115, 101, 116]⟩ : ByteArray), (⟨#[117, 116, 102, 45, 56]⟩ : ByteArray)⟩ : S25), (⟨(⟨#[110, 97, 109, 101]⟩ : ByteArray), (⟨#[97, 32, 34, 98]⟩ : ByteArray)⟩ : S25)]).toArray 25)).drewN n7) = W7 at b67 hs7 ⊢
  clear hs7
  refine (header_Write.calls _ _ [(⟨(⟨#[65]⟩ : ByteArray), (⟨#[32, 120, 10, 121, 32]⟩ : ByteArray)⟩ : S35), (⟨(⟨#[98, 32, 99]⟩ : ByteArray), (⟨#[]⟩ : ByteArray)⟩ : S35)] _ _ (lit_C35 W7 [(⟨(⟨#[65]⟩ : ByteArray), (⟨#[32, 120, 10, 121, 32]⟩ : ByteArray)⟩ : S35), (⟨(⟨#[98, 32, 99]⟩ : ByteArray), (⟨#[]⟩ : ByteArray)⟩ : S35)] (by decide)) (Nat.le_refl _) P5.out).mono ?_
  rintro e w8 ⟨rfl, hb8⟩
  have HB8 := Aside0.mk hb8
  clear hb8
  go_wp2_with fail
  go_ret
  refine ⟨rfl, ?_⟩
  have s1 := HB1.out
  have s2 := HB2.out
  have s3 := b34
  have e1 : Below w.heap.size w w4 := s1.trans (((s2.mono s1.size).trans (HB3.out.mono (Nat.le_trans s1.size s2.size))).trans (b34.mono (Nat.le_trans (Nat.le_trans s1.size s2.size) HB3.out.size)))
  have e2 : Below w.heap.size w W7 := e1.trans ((b46.mono e1.size).trans (b67.mono (Nat.le_trans e1.size b46.size)))
  exact (e2.alloc e2.size _).trans (HB8.out.mono (by rw [World.size_alloc]; have := e2.size; omega))
def missivelaw09_small.f (k : Nat) : Option Bool := some true
theorem missivelaw09_small.mono (k : Nat) : LeO (missivelaw09_small.f k) (missivelaw09_small.f (k + 1)) := LeO.refl _
theorem missivelaw09_small.calls (k : Nat) (r : Bool) (w : World) (h : missivelaw09_small.f k = some r) :
    Calls Tryz.prog 10 #[] w fun e w' => e = .returned (.bool r) ∧ Below w.heap.size w w' := by
  obtain rfl := Option.some.inj h
  exact small_calls w
theorem small_ev : Ev (fun k => missivelaw09_small.f k) true := Ev.now true
end Go.Proofs.YtieompfmhnpnaaaGreat.H
end
section
namespace Go.Proofs.YtieompfmhnpnaaaGreat.H
open Go.RowKit Go.Proofs.YtieompfmhnpnaaaGreatW.PrintWords Go.Proofs.YtieompfmhnpnaaaGreatW.PrintLast Go.Proofs.YtieompfmhnpnaaaGreatW.PrintMore
set_option linter.unusedVariables false
set_option linter.unusedSimpArgs false
theorem print_append_str_step {P : Program} {ops : Array Oper} {o : Oper} {a : Act} {Kc : Act → World → Prop} {Q : Exit → Act → World → Prop} {w0 W : World} (base : Nat) (hw : Region.wanted o (yielded ops a.tmps) = true) (s x : Operand) (t u e : TypeId)
    (ho : o.op = .call { callee := .builtin .append, args := #[s, x], argTypes := #[t, u] })
    (ht : P.underlying t = some (.slice e)) (hu : P.underlying u = some .string) (hinfo : (P.info? e).map (fun i => (i.zero, i.size, i.bytes)) = some (some (.int .u8 0), 1, 1))
    (v : Value) (xs : List Int) (y : ByteArray) (hs : a.eval s = v) (hx : a.eval x = .string y)
    (HO : W.ownsRow base e 1 v xs.length (nums .u8 xs)) (HB : Below base w0 W) (hbase : base ≤ W.heap.size) (hl : xs.length + y.size ≤ 140737488355328)
    (h : ∀ v1 w1, w1.ownsRow base e 1 v1 (xs ++ bytesOf y).length (nums .u8 (xs ++ bytesOf y)) → Below base w0 w1 → W.grownBy w1 v.ownBlock → Kc (a.put o.dst v1) w1) :
    if Region.wanted o (yielded ops a.tmps) = true then Oper.wp P o a W Kc Q else Kc (a.put o.dst undef) W := by
  obtain ⟨i0, hi, hzz⟩ := Option.map_eq_some_iff.1 hinfo
  simp only [Prod.mk.injEq] at hzz
  obtain ⟨hz0, hz1, hz2⟩ := hzz
  obtain ⟨v1, w1, hr, hown, hg, _⟩ := Lib.run_append_own_string (P := P) W base t u o.type e i0 ht hu hi hz0 hz1 hz2 v xs.length (nums .u8 xs) HO y (by simp only [maxLen]; omega) hl hbase
  rw [if_pos hw]
  unfold Oper.wp execOp
  simp only [ho, resolve, invoke, builtin, Sem.run_bind, Sem.run_pure, Result.andThen_ok, List.map_toArray, List.map_cons, List.map_nil, hs, hx, hr]
  have hl2 : (xs ++ bytesOf y).length = xs.length + y.size := by rw [List.length_append, bytesOf_length]
  have hc : nums .u8 (xs ++ bytesOf y) = nums .u8 xs ++ Lib.strCells y := by
    rw [nums_append]
    congr 1
    simp [nums, bytesOf, Lib.strCells]
  exact h v1 w1 (by rw [hl2, hc]; exact hown) (HB.grown hg hbase (own_base HO)) hg
end Go.Proofs.YtieompfmhnpnaaaGreat.H
end
section
namespace Go.Proofs.YtieompfmhnpnaaaGreat.H
open Go.RowKit Go.Proofs.YtieompfmhnpnaaaGreatW.PrintWords Go.Proofs.YtieompfmhnpnaaaGreatW.PrintLast Go.Proofs.YtieompfmhnpnaaaGreatW.PrintMore
attribute [local go_sem] max2_int min2_int max_two min_two max_three min_three max_four min_four
set_option linter.unusedVariables false
set_option linter.unusedSimpArgs false
mutual
def missivelaw09_HeaderFolds.l0 : Nat → List (S35) → Bool → ByteArray → List ByteArray → Int → Option (Bool)
  | 0, _, _, _, _, _ => none
  | k + 1, x0, x3, x4, x5, x6 => if x6 < (x5.length : Int) then (if 0 ≤ x6 then (if ((rdOf ByteArray.empty x5 x6).size : Int) > 998 then (missivelaw09_HeaderFolds.j1 k x0 x3 x4 x5 x6 true) else (missivelaw09_HeaderFolds.j1 k x0 x3 x4 x5 x6 ((rdOf ByteArray.empty x5 x6).toList == ([] : List UInt8)))) else (none)) else (missivelaw09_HeaderFolds.l3 k x0 x3 x4 ([] : List Int) 0)
def missivelaw09_HeaderFolds.j1 : Nat → List (S35) → Bool → ByteArray → List ByteArray → Int → Bool → Option (Bool)
  | 0, _, _, _, _, _, _ => none
  | k + 1, x0, x3, x4, x5, x6, x39 => if x39 = true then (some false) else (missivelaw09_HeaderFolds.l1 k x0 x3 x4 x5 x6 1 0)
def missivelaw09_HeaderFolds.j4 : Nat → List (S35) → Bool → ByteArray → List ByteArray → Int → Int → Option (Bool)
  | 0, _, _, _, _, _, _ => none
  | k + 1, x0, x3, x4, x5, x6, x7 => missivelaw09_HeaderFolds.l2 k x0 x3 x4 x5 x6 x7
def missivelaw09_HeaderFolds.l2 : Nat → List (S35) → Bool → ByteArray → List ByteArray → Int → Int → Option (Bool)
  | 0, _, _, _, _, _, _ => none
  | k + 1, x0, x3, x4, x5, x6, x9 => if x9 ≤ 78 then (if 0 ≤ x6 then (if x6 < (x5.length : Int) then (missivelaw09_HeaderFolds.j6 k x0 x3 x4 x5 x6 x9 (decide (((rdOf ByteArray.empty x5 x6).size : Int) > 78))) else (none)) else (none)) else (missivelaw09_HeaderFolds.j6 k x0 x3 x4 x5 x6 x9 false)
def missivelaw09_HeaderFolds.j6 : Nat → List (S35) → Bool → ByteArray → List ByteArray → Int → Int → Bool → Option (Bool)
  | 0, _, _, _, _, _, _, _ => none
  | k + 1, x0, x3, x4, x5, x6, x9, x76 => if x76 = true then (if 0 ≤ x6 then (if x6 < (x5.length : Int) then ((missiveref09_Fold.f (rdOf ByteArray.empty x5 x6) x9).bind fun t289 => (if t289 = true then (some false) else (missivelaw09_HeaderFolds.l2 k x0 x3 x4 x5 x6 (wrap64 (x9 + 1))))) else (none)) else (none)) else (missivelaw09_HeaderFolds.l0 k x0 x3 x4 x5 (wrap64 (x6 + 1)))
def missivelaw09_HeaderFolds.l1 : Nat → List (S35) → Bool → ByteArray → List ByteArray → Int → Int → Int → Option (Bool)
  | 0, _, _, _, _, _, _, _ => none
  | k + 1, x0, x3, x4, x5, x6, x7, x8 => if 0 ≤ x6 then (if x6 < (x5.length : Int) then (if x8 < ((rdOf ByteArray.empty x5 x6).size : Int) then (if 0 < ((rdOf ByteArray.empty x5 x6).size : Int) then (missivelaw09_HeaderFolds.j3 k x0 x3 x4 x5 x6 x7 x8 ((bt (rdOf ByteArray.empty x5 x6) 0) != 32)) else (none)) else (missivelaw09_HeaderFolds.j3 k x0 x3 x4 x5 x6 x7 x8 false)) else (none)) else (none)
def missivelaw09_HeaderFolds.j3 : Nat → List (S35) → Bool → ByteArray → List ByteArray → Int → Int → Int → Bool → Option (Bool)
  | 0, _, _, _, _, _, _, _, _ => none
  | k + 1, x0, x3, x4, x5, x6, x7, x8, x54 => if x54 = true then (if 0 ≤ x6 then (if x6 < (x5.length : Int) then (if 0 ≤ x8 then (if x8 < ((rdOf ByteArray.empty x5 x6).size : Int) then (if (bt (rdOf ByteArray.empty x5 x6) x8) = 58 then (missivelaw09_HeaderFolds.j4 k x0 x3 x4 x5 x6 (wrap64 (x8 + 2))) else (missivelaw09_HeaderFolds.l1 k x0 x3 x4 x5 x6 x7 (wrap64 (x8 + 1)))) else (none)) else (none)) else (none)) else (none)) else (missivelaw09_HeaderFolds.j4 k x0 x3 x4 x5 x6 x7)
def missivelaw09_HeaderFolds.l3 : Nat → List (S35) → Bool → ByteArray → List Int → Int → Option (Bool)
  | 0, _, _, _, _, _ => none
  | k + 1, x0, x3, x4, x10, x11 => if x11 < (x0.length : Int) then (if 0 ≤ x11 then ((missiveref09_Named.f k ((rd_T35 x0 x11).f0)).bind fun t291 => (if t291 = true then (if ((rd_T35 x0 x11).f0).size + 1 ≤ 9223372036854775807 then (if (((rd_T35 x0 x11).f0) ++ (⟨#[58]⟩ : ByteArray)).size + ((rd_T35 x0 x11).f1).size ≤ 9223372036854775807 then (if x10.length + ((((rd_T35 x0 x11).f0) ++ (⟨#[58]⟩ : ByteArray)) ++ ((rd_T35 x0 x11).f1)).size < 140737488355328 then (missivelaw09_HeaderFolds.l3 k x0 x3 x4 (x10 ++ bytesOf ((((rd_T35 x0 x11).f0) ++ (⟨#[58]⟩ : ByteArray)) ++ ((rd_T35 x0 x11).f1))) (wrap64 (x11 + 1))) else (none)) else (none)) else (none)) else (missivelaw09_HeaderFolds.l3 k x0 x3 x4 x10 (wrap64 (x11 + 1))))) else (none)) else (if x3 = true then ((missivelaw09_solid.f k x4).bind fun t297 => ((missivelaw09_solid.f k (strOfNums x10)).bind fun t298 => (some (t297.toList == t298.toList)))) else (some false))
end
def missivelaw09_HeaderFolds.f (k : Nat) (l0 : List (S35)) : Option (Bool) := (missivelaw09_small.f k).bind fun t276 => ((missivelaw09_few.f k l0).bind fun t277 => (if t277 = true then ((header_Write.f l0).bind fun t278 => ((text_Lines.f k t278).bind fun t279 => (missivelaw09_HeaderFolds.l0 k l0 t276 t278 t279 0))) else (some t276)))
theorem missivelaw09_HeaderFolds.mono_l : ∀ k, (∀ y0 y1 y2 y3 y4, LeO (missivelaw09_HeaderFolds.l0 k y0 y1 y2 y3 y4) (missivelaw09_HeaderFolds.l0 (k + 1) y0 y1 y2 y3 y4)) ∧ (∀ y0 y1 y2 y3 y4 y5, LeO (missivelaw09_HeaderFolds.j1 k y0 y1 y2 y3 y4 y5) (missivelaw09_HeaderFolds.j1 (k + 1) y0 y1 y2 y3 y4 y5)) ∧ (∀ y0 y1 y2 y3 y4 y5, LeO (missivelaw09_HeaderFolds.j4 k y0 y1 y2 y3 y4 y5) (missivelaw09_HeaderFolds.j4 (k + 1) y0 y1 y2 y3 y4 y5)) ∧ (∀ y0 y1 y2 y3 y4 y5, LeO (missivelaw09_HeaderFolds.l2 k y0 y1 y2 y3 y4 y5) (missivelaw09_HeaderFolds.l2 (k + 1) y0 y1 y2 y3 y4 y5)) ∧ (∀ y0 y1 y2 y3 y4 y5 y6, LeO (missivelaw09_HeaderFolds.j6 k y0 y1 y2 y3 y4 y5 y6) (missivelaw09_HeaderFolds.j6 (k + 1) y0 y1 y2 y3 y4 y5 y6)) ∧ (∀ y0 y1 y2 y3 y4 y5 y6, LeO (missivelaw09_HeaderFolds.l1 k y0 y1 y2 y3 y4 y5 y6) (missivelaw09_HeaderFolds.l1 (k + 1) y0 y1 y2 y3 y4 y5 y6)) ∧ (∀ y0 y1 y2 y3 y4 y5 y6 y7, LeO (missivelaw09_HeaderFolds.j3 k y0 y1 y2 y3 y4 y5 y6 y7) (missivelaw09_HeaderFolds.j3 (k + 1) y0 y1 y2 y3 y4 y5 y6 y7)) ∧ (∀ y0 y1 y2 y3 y4, LeO (missivelaw09_HeaderFolds.l3 k y0 y1 y2 y3 y4) (missivelaw09_HeaderFolds.l3 (k + 1) y0 y1 y2 y3 y4))
  | 0 => ⟨fun _ _ _ _ _ r h => by simp [missivelaw09_HeaderFolds.l0] at h, fun _ _ _ _ _ _ r h => by simp [missivelaw09_HeaderFolds.j1] at h, fun _ _ _ _ _ _ r h => by simp [missivelaw09_HeaderFolds.j4] at h, fun _ _ _ _ _ _ r h => by simp [missivelaw09_HeaderFolds.l2] at h, fun _ _ _ _ _ _ _ r h => by simp [missivelaw09_HeaderFolds.j6] at h, fun _ _ _ _ _ _ _ r h => by simp [missivelaw09_HeaderFolds.l1] at h, fun _ _ _ _ _ _ _ _ r h => by simp [missivelaw09_HeaderFolds.j3] at h, fun _ _ _ _ _ r h => by simp [missivelaw09_HeaderFolds.l3] at h⟩
  | k + 1 => by
    obtain ⟨ih0, ih1, ih2, ih3, ih4, ih5, ih6, ih7⟩ := missivelaw09_HeaderFolds.mono_l k
    refine ⟨?_, ?_, ?_, ?_, ?_, ?_, ?_, ?_⟩
    · intro y0 y1 y2 y3 y4
      unfold missivelaw09_HeaderFolds.l0
      repeat' first
      | (with_reducible exact ih0 _ _ _ _ _)
      | (with_reducible exact ih1 _ _ _ _ _ _)
      | (with_reducible exact ih2 _ _ _ _ _ _)
      | (with_reducible exact ih3 _ _ _ _ _ _)
      | (with_reducible exact ih4 _ _ _ _ _ _ _)
      | (with_reducible exact ih5 _ _ _ _ _ _ _)
      | (with_reducible exact ih6 _ _ _ _ _ _ _ _)
      | (with_reducible exact ih7 _ _ _ _ _)
      | (with_reducible exact missivelaw09_few.mono _ _)
      | (with_reducible exact missivelaw09_small.mono _)
      | (with_reducible exact missivelaw09_solid.mono _ _)
      | (with_reducible exact missiveref09_Named.mono _ _)
      | (with_reducible exact text_Lines.mono _ _)
      | (with_reducible exact LeO.refl _)
      | (with_reducible exact LeO.none _)
      | (with_reducible refine LeO.ite ?_ ?_)
      | (with_reducible refine LeO.bind ?_ (fun _ => ?_))
      | exact ih0 _ _ _ _ _
      | exact ih1 _ _ _ _ _ _
      | exact ih2 _ _ _ _ _ _
      | exact ih3 _ _ _ _ _ _
      | exact ih4 _ _ _ _ _ _ _
      | exact ih5 _ _ _ _ _ _ _
      | exact ih6 _ _ _ _ _ _ _ _
      | exact ih7 _ _ _ _ _
      | exact missivelaw09_few.mono _ _
      | exact missivelaw09_small.mono _
      | exact missivelaw09_solid.mono _ _
      | exact missiveref09_Named.mono _ _
      | exact text_Lines.mono _ _
      | exact LeO.none _
      | refine LeO.ite ?_ ?_
      | refine LeO.bind ?_ (fun _ => ?_)
    · intro y0 y1 y2 y3 y4 y5
      unfold missivelaw09_HeaderFolds.j1
      repeat' first
      | (with_reducible exact ih0 _ _ _ _ _)
      | (with_reducible exact ih1 _ _ _ _ _ _)
      | (with_reducible exact ih2 _ _ _ _ _ _)
      | (with_reducible exact ih3 _ _ _ _ _ _)
      | (with_reducible exact ih4 _ _ _ _ _ _ _)
      | (with_reducible exact ih5 _ _ _ _ _ _ _)
      | (with_reducible exact ih6 _ _ _ _ _ _ _ _)
      | (with_reducible exact ih7 _ _ _ _ _)
      | (with_reducible exact missivelaw09_few.mono _ _)
      | (with_reducible exact missivelaw09_small.mono _)
      | (with_reducible exact missivelaw09_solid.mono _ _)
      | (with_reducible exact missiveref09_Named.mono _ _)
      | (with_reducible exact text_Lines.mono _ _)
      | (with_reducible exact LeO.refl _)
      | (with_reducible exact LeO.none _)
      | (with_reducible refine LeO.ite ?_ ?_)
      | (with_reducible refine LeO.bind ?_ (fun _ => ?_))
      | exact ih0 _ _ _ _ _
      | exact ih1 _ _ _ _ _ _
      | exact ih2 _ _ _ _ _ _
      | exact ih3 _ _ _ _ _ _
      | exact ih4 _ _ _ _ _ _ _
      | exact ih5 _ _ _ _ _ _ _
      | exact ih6 _ _ _ _ _ _ _ _
      | exact ih7 _ _ _ _ _
      | exact missivelaw09_few.mono _ _
      | exact missivelaw09_small.mono _
      | exact missivelaw09_solid.mono _ _
      | exact missiveref09_Named.mono _ _
      | exact text_Lines.mono _ _
      | exact LeO.none _
      | refine LeO.ite ?_ ?_
      | refine LeO.bind ?_ (fun _ => ?_)
    · intro y0 y1 y2 y3 y4 y5
      unfold missivelaw09_HeaderFolds.j4
      repeat' first
      | (with_reducible exact ih0 _ _ _ _ _)
      | (with_reducible exact ih1 _ _ _ _ _ _)
      | (with_reducible exact ih2 _ _ _ _ _ _)
      | (with_reducible exact ih3 _ _ _ _ _ _)
      | (with_reducible exact ih4 _ _ _ _ _ _ _)
      | (with_reducible exact ih5 _ _ _ _ _ _ _)
      | (with_reducible exact ih6 _ _ _ _ _ _ _ _)
      | (with_reducible exact ih7 _ _ _ _ _)
      | (with_reducible exact missivelaw09_few.mono _ _)
      | (with_reducible exact missivelaw09_small.mono _)
      | (with_reducible exact missivelaw09_solid.mono _ _)
      | (with_reducible exact missiveref09_Named.mono _ _)
      | (with_reducible exact text_Lines.mono _ _)
      | (with_reducible exact LeO.refl _)
      | (with_reducible exact LeO.none _)
      | (with_reducible refine LeO.ite ?_ ?_)
      | (with_reducible refine LeO.bind ?_ (fun _ => ?_))
      | exact ih0 _ _ _ _ _
      | exact ih1 _ _ _ _ _ _
      | exact ih2 _ _ _ _ _ _
      | exact ih3 _ _ _ _ _ _
      | exact ih4 _ _ _ _ _ _ _
      | exact ih5 _ _ _ _ _ _ _
      | exact ih6 _ _ _ _ _ _ _ _
      | exact ih7 _ _ _ _ _
      | exact missivelaw09_few.mono _ _
      | exact missivelaw09_small.mono _
      | exact missivelaw09_solid.mono _ _
      | exact missiveref09_Named.mono _ _
      | exact text_Lines.mono _ _
      | exact LeO.none _
      | refine LeO.ite ?_ ?_
      | refine LeO.bind ?_ (fun _ => ?_)
    · intro y0 y1 y2 y3 y4 y5
      unfold missivelaw09_HeaderFolds.l2
      repeat' first
      | (with_reducible exact ih0 _ _ _ _ _)
      | (with_reducible exact ih1 _ _ _ _ _ _)
      | (with_reducible exact ih2 _ _ _ _ _ _)
      | (with_reducible exact ih3 _ _ _ _ _ _)
      | (with_reducible exact ih4 _ _ _ _ _ _ _)
      | (with_reducible exact ih5 _ _ _ _ _ _ _)
      | (with_reducible exact ih6 _ _ _ _ _ _ _ _)
      | (with_reducible exact ih7 _ _ _ _ _)
      | (with_reducible exact missivelaw09_few.mono _ _)
      | (with_reducible exact missivelaw09_small.mono _)
      | (with_reducible exact missivelaw09_solid.mono _ _)
      | (with_reducible exact missiveref09_Named.mono _ _)
      | (with_reducible exact text_Lines.mono _ _)
      | (with_reducible exact LeO.refl _)
      | (with_reducible exact LeO.none _)
      | (with_reducible refine LeO.ite ?_ ?_)
      | (with_reducible refine LeO.bind ?_ (fun _ => ?_))
      | exact ih0 _ _ _ _ _
      | exact ih1 _ _ _ _ _ _
      | exact ih2 _ _ _ _ _ _
      | exact ih3 _ _ _ _ _ _
      | exact ih4 _ _ _ _ _ _ _
      | exact ih5 _ _ _ _ _ _ _
      | exact ih6 _ _ _ _ _ _ _ _
      | exact ih7 _ _ _ _ _
      | exact missivelaw09_few.mono _ _
      | exact missivelaw09_small.mono _
      | exact missivelaw09_solid.mono _ _
      | exact missiveref09_Named.mono _ _
      | exact text_Lines.mono _ _
      | exact LeO.none _
      | refine LeO.ite ?_ ?_
      | refine LeO.bind ?_ (fun _ => ?_)
    · intro y0 y1 y2 y3 y4 y5 y6
      unfold missivelaw09_HeaderFolds.j6
      repeat' first
      | (with_reducible exact ih0 _ _ _ _ _)
      | (with_reducible exact ih1 _ _ _ _ _ _)
      | (with_reducible exact ih2 _ _ _ _ _ _)
      | (with_reducible exact ih3 _ _ _ _ _ _)
      | (with_reducible exact ih4 _ _ _ _ _ _ _)
      | (with_reducible exact ih5 _ _ _ _ _ _ _)
      | (with_reducible exact ih6 _ _ _ _ _ _ _ _)
      | (with_reducible exact ih7 _ _ _ _ _)
      | (with_reducible exact missivelaw09_few.mono _ _)
      | (with_reducible exact missivelaw09_small.mono _)
      | (with_reducible exact missivelaw09_solid.mono _ _)
      | (with_reducible exact missiveref09_Named.mono _ _)
      | (with_reducible exact text_Lines.mono _ _)
      | (with_reducible exact LeO.refl _)
      | (with_reducible exact LeO.none _)
      | (with_reducible refine LeO.ite ?_ ?_)
      | (with_reducible refine LeO.bind ?_ (fun _ => ?_))
      | exact ih0 _ _ _ _ _
      | exact ih1 _ _ _ _ _ _
      | exact ih2 _ _ _ _ _ _
      | exact ih3 _ _ _ _ _ _
      | exact ih4 _ _ _ _ _ _ _
      | exact ih5 _ _ _ _ _ _ _
      | exact ih6 _ _ _ _ _ _ _ _
      | exact ih7 _ _ _ _ _
      | exact missivelaw09_few.mono _ _
      | exact missivelaw09_small.mono _
      | exact missivelaw09_solid.mono _ _
      | exact missiveref09_Named.mono _ _
      | exact text_Lines.mono _ _
      | exact LeO.none _
      | refine LeO.ite ?_ ?_
      | refine LeO.bind ?_ (fun _ => ?_)
    · intro y0 y1 y2 y3 y4 y5 y6
      unfold missivelaw09_HeaderFolds.l1
      repeat' first
      | (with_reducible exact ih0 _ _ _ _ _)
      | (with_reducible exact ih1 _ _ _ _ _ _)
      | (with_reducible exact ih2 _ _ _ _ _ _)
      | (with_reducible exact ih3 _ _ _ _ _ _)
      | (with_reducible exact ih4 _ _ _ _ _ _ _)
      | (with_reducible exact ih5 _ _ _ _ _ _ _)
      | (with_reducible exact ih6 _ _ _ _ _ _ _ _)
      | (with_reducible exact ih7 _ _ _ _ _)
      | (with_reducible exact missivelaw09_few.mono _ _)
      | (with_reducible exact missivelaw09_small.mono _)
      | (with_reducible exact missivelaw09_solid.mono _ _)
      | (with_reducible exact missiveref09_Named.mono _ _)
      | (with_reducible exact text_Lines.mono _ _)
      | (with_reducible exact LeO.refl _)
      | (with_reducible exact LeO.none _)
      | (with_reducible refine LeO.ite ?_ ?_)
      | (with_reducible refine LeO.bind ?_ (fun _ => ?_))
      | exact ih0 _ _ _ _ _
      | exact ih1 _ _ _ _ _ _
      | exact ih2 _ _ _ _ _ _
      | exact ih3 _ _ _ _ _ _
      | exact ih4 _ _ _ _ _ _ _
      | exact ih5 _ _ _ _ _ _ _
      | exact ih6 _ _ _ _ _ _ _ _
      | exact ih7 _ _ _ _ _
      | exact missivelaw09_few.mono _ _
      | exact missivelaw09_small.mono _
      | exact missivelaw09_solid.mono _ _
      | exact missiveref09_Named.mono _ _
      | exact text_Lines.mono _ _
      | exact LeO.none _
      | refine LeO.ite ?_ ?_
      | refine LeO.bind ?_ (fun _ => ?_)
    · intro y0 y1 y2 y3 y4 y5 y6 y7
      unfold missivelaw09_HeaderFolds.j3
      repeat' first
      | (with_reducible exact ih0 _ _ _ _ _)
      | (with_reducible exact ih1 _ _ _ _ _ _)
      | (with_reducible exact ih2 _ _ _ _ _ _)
      | (with_reducible exact ih3 _ _ _ _ _ _)
      | (with_reducible exact ih4 _ _ _ _ _ _ _)
      | (with_reducible exact ih5 _ _ _ _ _ _ _)
      | (with_reducible exact ih6 _ _ _ _ _ _ _ _)
      | (with_reducible exact ih7 _ _ _ _ _)
      | (with_reducible exact missivelaw09_few.mono _ _)
      | (with_reducible exact missivelaw09_small.mono _)
      | (with_reducible exact missivelaw09_solid.mono _ _)
      | (with_reducible exact missiveref09_Named.mono _ _)
      | (with_reducible exact text_Lines.mono _ _)
      | (with_reducible exact LeO.refl _)
      | (with_reducible exact LeO.none _)
      | (with_reducible refine LeO.ite ?_ ?_)
      | (with_reducible refine LeO.bind ?_ (fun _ => ?_))
      | exact ih0 _ _ _ _ _
      | exact ih1 _ _ _ _ _ _
      | exact ih2 _ _ _ _ _ _
      | exact ih3 _ _ _ _ _ _
      | exact ih4 _ _ _ _ _ _ _
      | exact ih5 _ _ _ _ _ _ _
      | exact ih6 _ _ _ _ _ _ _ _
      | exact ih7 _ _ _ _ _
      | exact missivelaw09_few.mono _ _
      | exact missivelaw09_small.mono _
      | exact missivelaw09_solid.mono _ _
      | exact missiveref09_Named.mono _ _
      | exact text_Lines.mono _ _
      | exact LeO.none _
      | refine LeO.ite ?_ ?_
      | refine LeO.bind ?_ (fun _ => ?_)
    · intro y0 y1 y2 y3 y4
      unfold missivelaw09_HeaderFolds.l3
      repeat' first
      | (with_reducible exact ih0 _ _ _ _ _)
      | (with_reducible exact ih1 _ _ _ _ _ _)
      | (with_reducible exact ih2 _ _ _ _ _ _)
      | (with_reducible exact ih3 _ _ _ _ _ _)
      | (with_reducible exact ih4 _ _ _ _ _ _ _)
      | (with_reducible exact ih5 _ _ _ _ _ _ _)
      | (with_reducible exact ih6 _ _ _ _ _ _ _ _)
      | (with_reducible exact ih7 _ _ _ _ _)
      | (with_reducible exact missivelaw09_few.mono _ _)
      | (with_reducible exact missivelaw09_small.mono _)
      | (with_reducible exact missivelaw09_solid.mono _ _)
      | (with_reducible exact missiveref09_Named.mono _ _)
      | (with_reducible exact text_Lines.mono _ _)
      | (with_reducible exact LeO.refl _)
      | (with_reducible exact LeO.none _)
      | (with_reducible refine LeO.ite ?_ ?_)
      | (with_reducible refine LeO.bind ?_ (fun _ => ?_))
      | exact ih0 _ _ _ _ _
      | exact ih1 _ _ _ _ _ _
      | exact ih2 _ _ _ _ _ _
      | exact ih3 _ _ _ _ _ _
      | exact ih4 _ _ _ _ _ _ _
      | exact ih5 _ _ _ _ _ _ _
      | exact ih6 _ _ _ _ _ _ _ _
      | exact ih7 _ _ _ _ _
      | exact missivelaw09_few.mono _ _
      | exact missivelaw09_small.mono _
      | exact missivelaw09_solid.mono _ _
      | exact missiveref09_Named.mono _ _
      | exact text_Lines.mono _ _
      | exact LeO.none _
      | refine LeO.ite ?_ ?_
      | refine LeO.bind ?_ (fun _ => ?_)
theorem missivelaw09_HeaderFolds.mono : ∀ a0 k, LeO (missivelaw09_HeaderFolds.f k a0) (missivelaw09_HeaderFolds.f (k + 1) a0) := by
  intro a0 k
  obtain ⟨ih0, ih1, ih2, ih3, ih4, ih5, ih6, ih7⟩ := missivelaw09_HeaderFolds.mono_l k
  unfold missivelaw09_HeaderFolds.f
  repeat' first
      | (with_reducible exact ih0 _ _ _ _ _)
      | (with_reducible exact ih1 _ _ _ _ _ _)
      | (with_reducible exact ih2 _ _ _ _ _ _)
      | (with_reducible exact ih3 _ _ _ _ _ _)
      | (with_reducible exact ih4 _ _ _ _ _ _ _)
      | (with_reducible exact ih5 _ _ _ _ _ _ _)
      | (with_reducible exact ih6 _ _ _ _ _ _ _ _)
      | (with_reducible exact ih7 _ _ _ _ _)
      | (with_reducible exact missivelaw09_few.mono _ _)
      | (with_reducible exact missivelaw09_small.mono _)
      | (with_reducible exact missivelaw09_solid.mono _ _)
      | (with_reducible exact missiveref09_Named.mono _ _)
      | (with_reducible exact text_Lines.mono _ _)
      | (with_reducible exact LeO.refl _)
      | (with_reducible exact LeO.none _)
      | (with_reducible refine LeO.ite ?_ ?_)
      | (with_reducible refine LeO.bind ?_ (fun _ => ?_))
      | exact ih0 _ _ _ _ _
      | exact ih1 _ _ _ _ _ _
      | exact ih2 _ _ _ _ _ _
      | exact ih3 _ _ _ _ _ _
      | exact ih4 _ _ _ _ _ _ _
      | exact ih5 _ _ _ _ _ _ _
      | exact ih6 _ _ _ _ _ _ _ _
      | exact ih7 _ _ _ _ _
      | exact missivelaw09_few.mono _ _
      | exact missivelaw09_small.mono _
      | exact missivelaw09_solid.mono _ _
      | exact missiveref09_Named.mono _ _
      | exact text_Lines.mono _ _
      | exact LeO.none _
      | refine LeO.ite ?_ ?_
      | refine LeO.bind ?_ (fun _ => ?_)
def missivelaw09_HeaderFolds.T27 : Bool × List (List Nat × List Nat) := (true, [([], []), ([], []), ([], []), ([1, 2], [1, 2]), ([3], [3]), ([4], [4]), ([5], [5]), ([], []), ([], []), ([7, 8], [7, 8]), ([9], [9]), ([10], [10]), ([6, 11], [6, 11]), ([0, 12], [0, 12]), ([13, 13, 0, 1, 2, 3, 4, 5, 6, 7, 8, 9, 10, 11, 12, 13], [0, 13])])
def missivelaw09_HeaderFolds.B27 : List Nat := [0, 0, 0, 6, 14, 30, 62, 0, 0, 384, 896, 1920, 4094, 8191, 16383]
theorem missivelaw09_HeaderFolds.tab27 : rtab .any (opsOf Tryz.f7 27) = missivelaw09_HeaderFolds.T27 := by kernel_rfl
theorem missivelaw09_HeaderFolds.bits27 : waitsOk missivelaw09_HeaderFolds.T27.2 missivelaw09_HeaderFolds.B27 = true := by kernel_rfl
def missivelaw09_HeaderFolds.T28 : Bool × List (List Nat × List Nat) := (true, [([], []), ([0], [0]), ([1], [1]), ([2, 1, 1], [1, 2]), ([1], [1]), ([4, 1], [1, 4]), ([5, 3, 1], [1, 5]), ([3, 6, 1], [1, 3, 6]), ([1, 7], [1, 7]), ([8, 6, 0, 1, 2, 3, 4, 5, 6, 7, 8], [8])])
def missivelaw09_HeaderFolds.B28 : List Nat := [0, 1, 3, 7, 3, 19, 63, 127, 255, 511]
theorem missivelaw09_HeaderFolds.tab28 : rtab .any (opsOf Tryz.f7 28) = missivelaw09_HeaderFolds.T28 := by kernel_rfl
theorem missivelaw09_HeaderFolds.bits28 : waitsOk missivelaw09_HeaderFolds.T28.2 missivelaw09_HeaderFolds.B28 = true := by kernel_rfl
set_option maxHeartbeats 8000000 in
set_option maxRecDepth 100000 in
theorem missivelaw09_HeaderFolds.calls (k : Nat) (A0 : Option Addr) (c0 : Nat) (l0 : List (S35)) (r : Bool) (w : World) (hr0 : Kd.C k35 w A0 l0.length l0) (hc0 : l0.length ≤ c0) (h : missivelaw09_HeaderFolds.f k l0 = some r) :
    Calls Tryz.prog 7 #[.slice A0 l0.length c0] w fun e w' => e = .returned (.bool r) ∧ Below w.heap.size w w' := by
  have HR0 := Aside0.mk hr0
  have HC0 := Aside0.mk hc0
  clear hr0 hc0
  have HB := Aside0.mk (Below.refl w.heap.size w)
  have H : ((missivelaw09_small.f k).bind fun t276 => ((missivelaw09_few.f k l0).bind fun t277 => (if t277 = true then ((header_Write.f l0).bind fun t278 => ((text_Lines.f k t278).bind fun t279 => (missivelaw09_HeaderFolds.l0 k l0 t276 t278 t279 0))) else (some t276)))) = some r := h
  clear h
  replace H := Option.bind_eq_some_iff.mp H
  obtain ⟨t276, A20, H⟩ := H
  replace H : ((missivelaw09_few.f k l0).bind fun t277 => (if t277 = true then ((header_Write.f l0).bind fun t278 => ((text_Lines.f k t278).bind fun t279 => (missivelaw09_HeaderFolds.l0 k l0 t276 t278 t279 0))) else (some t276))) = some r := H
  have A2 := Aside0.mk A20
  clear A20
  replace H := Option.bind_eq_some_iff.mp H
  obtain ⟨t277, A30, H⟩ := H
  replace H : (if t277 = true then ((header_Write.f l0).bind fun t278 => ((text_Lines.f k t278).bind fun t279 => (missivelaw09_HeaderFolds.l0 k l0 t276 t278 t279 0))) else (some t276)) = some r := H
  have A3 := Aside0.mk A30
  clear A30
  by_cases c4 : t277 = true
  · subst c4
    have H1 : ((header_Write.f l0).bind fun t278 => ((text_Lines.f k t278).bind fun t279 => (missivelaw09_HeaderFolds.l0 k l0 t276 t278 t279 0))) = some r := by rw [if_pos rfl] at H; exact H
    clear H
    have H := H1
    clear H1
    replace H := Option.bind_eq_some_iff.mp H
    obtain ⟨t278, A50, H⟩ := H
    replace H : ((text_Lines.f k t278).bind fun t279 => (missivelaw09_HeaderFolds.l0 k l0 t276 t278 t279 0)) = some r := H
    have A5 := Aside0.mk A50
    clear A50
    replace H := Option.bind_eq_some_iff.mp H
    obtain ⟨t279, A60, H⟩ := H
    replace H : (missivelaw09_HeaderFolds.l0 k l0 t276 t278 t279 0) = some r := H
    have A6 := Aside0.mk A60
    clear A60
    have H' := Aside0.mk H
    clear H
    go_enter Tryz.func7, Tryz.ntmps7
    go_wp2_with (first | ((with_reducible refine gate_callee (f := 10) rfl ?_); refine goesL_ (some 12) rfl rfl Tryz.func10 (by kernel_rfl) rfl #[] rfl (by (try simp only [List.map_toArray, List.map_cons, List.map_nil]); first | done | rfl | (simp only [List.length_drop, List.length_take]; rfl)) ?_; (with_reducible refine (missivelaw09_small.calls k  t276 _ A2.out).mono ?_); rintro e w7 ⟨rfl, hb⟩; refine ⟨_, rfl, ?_⟩; have n0_ := Aside0.mk (below_step (by repeat (first | (with_reducible first | exact HB.out | apply below_alloc | apply pw_below_drewN | apply below_drew1) | exact HB.out)) hb); clear HB; have HB := n0_; clear n0_; (try clear hb); (try clear hb2); (try clear hk); (try clear hi)) | ((with_reducible refine gate_callee (f := 18) rfl ?_); refine goesL_ (some 14) rfl rfl Tryz.func18 (by kernel_rfl) rfl #[.slice A0 l0.length c0] rfl (by (try simp only [List.map_toArray, List.map_cons, List.map_nil]); first | done | rfl | (simp only [List.length_drop, List.length_take]; rfl)) ?_; (with_reducible refine (missivelaw09_few.calls k _ _ l0 true _ ?side1 ?side2 A3.out).mono ?_); (case side1 => repeat (first | exact (Kd.C_below HR0.out HB.out) | (with_reducible refine Kd.C_alloc ?_ _) | (with_reducible refine Kd.C_drewN ?_ _) | (with_reducible refine Kd.C_drew ?_))); (case side2 => exact HC0.out); rintro e w' ⟨rfl, ⟨nd, rfl⟩⟩; refine ⟨_, rfl, ?_⟩) | ((with_reducible refine gate_callee (f := 21) rfl ?_); refine goesL_ (some 18) rfl rfl Tryz.func21 (by kernel_rfl) rfl #[.slice A0 l0.length c0] rfl (by (try simp only [List.map_toArray, List.map_cons, List.map_nil]); first | done | rfl | (simp only [List.length_drop, List.length_take]; rfl)) ?_; (with_reducible refine (header_Write.calls _ _ l0 t278 _ ?side1 ?side2 A5.out).mono ?_); (case side1 => repeat (first | exact (Kd.C_below HR0.out (by repeat (first | (with_reducible first | exact HB.out | apply below_alloc | apply pw_below_drewN | apply below_drew1) | exact HB.out))) | (with_reducible refine Kd.C_alloc ?_ _) | (with_reducible refine Kd.C_drewN ?_ _) | (with_reducible refine Kd.C_drew ?_))); (case side2 => exact HC0.out); rintro e w8 ⟨rfl, hb⟩; refine ⟨_, rfl, ?_⟩; have n0_ := Aside0.mk (below_step (by repeat (first | (with_reducible first | exact HB.out | apply below_alloc | apply pw_below_drewN | apply below_drew1) | exact HB.out)) hb); clear HB; have HB := n0_; clear n0_; (try clear hb); (try clear hb2); (try clear hk); (try clear hi)) | ((with_reducible refine gate_callee (f := 25) rfl ?_); refine goesL_ (some 20) rfl rfl Tryz.func25 (by kernel_rfl) rfl #[.string t278] rfl (by (try simp only [List.map_toArray, List.map_cons, List.map_nil]); first | done | rfl | (simp only [List.length_drop, List.length_take]; rfl)) ?_; (with_reducible refine (text_Lines.calls k t278 t279 _ A6.out).mono ?_); rintro e w9 ⟨v280, rfl, ho0, hb⟩; refine ⟨_, rfl, ?_⟩; have n0_ := Aside0.mk (Kd.R_lower ho0 (below_size (by repeat (first | (with_reducible first | exact HB.out | apply below_alloc | apply pw_below_drewN | apply below_drew1) | exact HB.out)))); have n1_ := Aside0.mk (below_step (by repeat (first | (with_reducible first | exact HB.out | apply below_alloc | apply pw_below_drewN | apply below_drew1) | exact HB.out)) hb); clear HB; have HO281 := n0_; have HB := n1_; clear n0_ n1_; (try clear hb); (try clear hb2); (try clear hk); (try clear hi); (try clear ho0)))
    go_loopg [6] k (fun kq v6 w' => ∃ (x6_1 : Int), v6 = .int .i64 x6_1 ∧ Aside0 (missivelaw09_HeaderFolds.l0 kq l0 t276 t278 t279 x6_1 = some r) ∧ Aside0 (kq ≤ k) ∧ Aside0 (Kd.R Kd.string 9 w' w.heap.size (fun _ => True) v280 t279) ∧ Aside0 (Below w.heap.size w w'))
    case atStart => exact ⟨(0), (by first | rfl | (simp; done) | (simp [*]; done)), H', ⟨Nat.le_refl _⟩, ⟨by (with_reducible repeat (first | apply Kd.R_alloc | apply Kd.R_drewN | apply Kd.R_drew)); exact HO281.out⟩, ⟨by repeat (first | (with_reducible first | exact HB.out | apply below_alloc | apply pw_below_drewN | apply below_drew1) | exact HB.out)⟩⟩
    case round =>
      clear H'
      try clear c1
      try clear c2
      try clear p2
      try clear c4
      try clear c7
      obtain ⟨x6_1, rfl, HA, HK1, HO_5, HB⟩ := hrel
      cases gk with
      | zero => exact absurd HA.out (by simp [missivelaw09_HeaderFolds.l0])
      | succ k1 =>
        have H := HA.out
        clear HA
        simp only [missivelaw09_HeaderFolds.l0] at H
        by_cases c10 : x6_1 < (t279.length : Int)
        · rw [if_pos c10] at H
          have c10b0 : decide (x6_1 < (t279.length : Int)) = true := decide_eq_true c10
          clear c10
          have HC11 := Aside0.mk H
          clear H
          obtain ⟨Ao12, co12, eo12⟩ := Kd.R_slice HO_5.out
          subst eo12
          go_upto_region 9 with (fail)
          go_cut [39] (fun v39 wc => ∃ (kq : Nat) (x39_10 : Bool), v39 = .bool x39_10 ∧ Aside0 (missivelaw09_HeaderFolds.j1 kq l0 t276 t278 t279 x6_1 x39_10 = some r) ∧ Aside0 (kq ≤ k1) ∧ Aside0 (Kd.R Kd.string 9 wc w.heap.size (fun _ => True) (.slice Ao12 t279.length co12) t279) ∧ Aside0 (Below w.heap.size w wc))
          case first =>
            have H := HC11.out
            clear HC11
            by_cases c13 : 0 ≤ x6_1
            · rw [if_pos c13] at H
              have c13b0 : decide (0 ≤ x6_1) = true := decide_eq_true c13
              clear c13
              (first | rw [c13b0] | (simp only [i64_w, i32_w]; rw [c13b0]) | skip)
              by_cases c14 : ((rdOf ByteArray.empty t279 x6_1).size : Int) > 998
              · rw [if_pos c14] at H
                have c14b0 : decide (998 < ((rdOf ByteArray.empty t279 x6_1).size : Int)) = true := decide_eq_true c14
                have c14b1 : decide (998 < (rdOf ByteArray.empty t279 x6_1).size) = true := decide_eq_true (by omega)
                clear c14
                have H' := Aside0.mk H
                clear H
                have p282 : 0 ≤ (x6_1 : Int) := of_decide_eq_true (by first | (with_reducible assumption) | assumption)
                have q282 : x6_1 < (t279.length : Int) := of_decide_eq_true (by first | (with_reducible assumption) | assumption)
                obtain ⟨ad282, e282, hx282_0⟩ := Kd.at_string (Kd.R_reads' HO_5.out).2.2 x6_1 p282 q282
                cases e282
                replace p282 := eq_true p282
                replace q282 := eq_true q282
                go_wp2
                go_meet
                case rel => exact ⟨_, (true), (by first | rfl | (simp; done) | (simp [*]; done)), H', ⟨by have := HK1.out; first | omega | exact Nat.le_refl _⟩, ⟨by (with_reducible repeat (first | apply Kd.R_alloc | apply Kd.R_drewN | apply Kd.R_drew)); exact HO_5.out⟩, ⟨by repeat (first | (with_reducible first | exact HB.out | apply below_alloc | apply pw_below_drewN | apply below_drew1) | exact HB.out)⟩⟩
              · rw [if_neg c14] at H
                have c14b0 : decide (998 < ((rdOf ByteArray.empty t279 x6_1).size : Int)) = false := decide_eq_false c14
                have c14b1 : decide (998 < (rdOf ByteArray.empty t279 x6_1).size) = false := decide_eq_false (by omega)
                clear c14
                have H' := Aside0.mk H
                clear H
                have p282 : 0 ≤ (x6_1 : Int) := of_decide_eq_true (by first | (with_reducible assumption) | assumption)
                have q282 : x6_1 < (t279.length : Int) := of_decide_eq_true (by first | (with_reducible assumption) | assumption)
                obtain ⟨ad282, e282, hx282_0⟩ := Kd.at_string (Kd.R_reads' HO_5.out).2.2 x6_1 p282 q282
                cases e282
                replace p282 := eq_true p282
                replace q282 := eq_true q282
                have p283 : 0 ≤ (x6_1 : Int) := of_decide_eq_true (by first | (with_reducible assumption) | assumption)
                have q283 : x6_1 < (t279.length : Int) := of_decide_eq_true (by first | (with_reducible assumption) | assumption)
                obtain ⟨ad283, e283, hx283_0⟩ := Kd.at_string (Kd.R_reads' HO_5.out).2.2 x6_1 p283 q283
                obtain rfl : ad282 = ad283 := (by injection e283)
                replace p283 := eq_true p283
                replace q283 := eq_true q283
                go_wp2
                go_meet
                case rel => exact ⟨_, (((rdOf ByteArray.empty t279 x6_1).toList == ([] : List UInt8))), (by first | rfl | (simp; done) | (simp [*]; done)), H', ⟨by have := HK1.out; first | omega | exact Nat.le_refl _⟩, ⟨by (with_reducible repeat (first | apply Kd.R_alloc | apply Kd.R_drewN | apply Kd.R_drew)); exact HO_5.out⟩, ⟨by repeat (first | (with_reducible first | exact HB.out | apply below_alloc | apply pw_below_drewN | apply below_drew1) | exact HB.out)⟩⟩
            · rw [if_neg c13] at H
              exact absurd H (by simp)
          case rest =>
            clear HC11
            try clear c1
            try clear c2
            try clear p2
            try clear q2
            try clear hx2
            try clear c4
            try clear c7
            try clear c10
            try clear c10b0
            try clear c13
            try clear c13b0
            try clear c14
            try clear c14b0
            try clear c14b1
            try clear hx282_0
            try clear hx283_0
            try clear p2
            try clear p282
            try clear p283
            try clear q282
            try clear q283
            obtain ⟨kq, x39_10, rfl, HA, HJ10, HO_5, HB⟩ := hcut
            cases kq with
            | zero => exact absurd HA.out (by simp [missivelaw09_HeaderFolds.j1])
            | succ kj10 =>
              have H := HA.out
              clear HA
              simp only [missivelaw09_HeaderFolds.j1] at H
              by_cases c15 : x39_10 = true
              · subst c15
                have H1 : (some false) = some r := by rw [if_pos rfl] at H; exact H
                clear H
                have H := H1
                clear H1
                obtain rfl := Option.some.inj H
                go_wp2
                go_ret
                exact ⟨by first | rfl | (simp [errW_none, errW_some]; done) | (simp [errW_none, errW_some]; exact isEmpty_nbne _) | (simp [errW_none, errW_some]; exact isEmpty_bne _) | (simp [errW_none, errW_some] <;> rfl) | (simp [*, errW_none, errW_some] <;> rfl), by repeat (first | (with_reducible first | exact HB.out | apply below_alloc | apply pw_below_drewN | apply below_drew1) | exact HB.out)⟩
              · replace c15 := Bool.eq_false_iff.mpr c15
                subst c15
                have H1 : (missivelaw09_HeaderFolds.l1 kj10 l0 t276 t278 t279 x6_1 1 0) = some r := by rw [if_neg (show ¬ (false = true) by decide)] at H; exact H
                clear H
                have H := H1
                clear H1
                have HC16 := Aside0.mk H
                clear H
                go_upto_block 2 with (fail)
                go_cut [7] (fun v7 wc => ∃ (kq : Nat) (x7_15 : Int), v7 = .int .i64 x7_15 ∧ Aside0 (missivelaw09_HeaderFolds.j4 kq l0 t276 t278 t279 x6_1 x7_15 = some r) ∧ Aside0 (kq ≤ kj10) ∧ Aside0 (Kd.R Kd.string 9 wc w.heap.size (fun _ => True) (.slice Ao12 t279.length co12) t279) ∧ Aside0 (Below w.heap.size w wc))
                case first =>
                  have H := HC16.out
                  clear HC16
                  have H' := Aside0.mk H
                  clear H
                  go_wp2
                  go_loopg [7, 8] kj10 (fun kq v7 v8 w' => ∃ (x7_3 : Int) (x8_3 : Int), v7 = .int .i64 x7_3 ∧ v8 = .int .i64 x8_3 ∧ Aside0 (missivelaw09_HeaderFolds.l1 kq l0 t276 t278 t279 x6_1 x7_3 x8_3 = some r) ∧ Aside0 (kq ≤ kj10) ∧ Aside0 (Kd.R Kd.string 9 w' w.heap.size (fun _ => True) (.slice Ao12 t279.length co12) t279) ∧ Aside0 (Below w.heap.size w w'))
                  case atStart => exact ⟨(1), (0), (by first | rfl | (simp; done) | (simp [*]; done)), (by first | rfl | (simp; done) | (simp [*]; done)), H', ⟨Nat.le_refl _⟩, ⟨by (with_reducible repeat (first | apply Kd.R_alloc | apply Kd.R_drewN | apply Kd.R_drew)); exact HO_5.out⟩, ⟨by repeat (first | (with_reducible first | exact HB.out | apply below_alloc | apply pw_below_drewN | apply below_drew1) | exact HB.out)⟩⟩
                  case round =>
                    clear H'
                    try clear c1
                    try clear c2
                    try clear p2
                    try clear q2
                    try clear hx2
                    try clear c4
                    try clear c7
                    try clear c10
                    try clear c10b0
                    try clear c13
                    try clear c13b0
                    try clear c14
                    try clear c14b0
                    try clear c14b1
                    try clear c15
                    try clear hx282_0
                    try clear hx283_0
                    try clear p2
                    try clear p282
                    try clear p283
                    try clear q2
                    try clear q282
                    try clear q283
                    obtain ⟨x7_3, x8_3, rfl, rfl, HA, HK3, HO_5, HB⟩ := hrel
                    cases gk with
                    | zero => exact absurd HA.out (by simp [missivelaw09_HeaderFolds.l1])
                    | succ k3 =>
                      have H := HA.out
                      clear HA
                      simp only [missivelaw09_HeaderFolds.l1] at H
                      have HC17 := Aside0.mk H
                      clear H
                      go_upto_region 13 with (fail)
                      go_cut [54] (fun v54 wc => ∃ (kq : Nat) (x54_16 : Bool), v54 = .bool x54_16 ∧ Aside0 (missivelaw09_HeaderFolds.j3 kq l0 t276 t278 t279 x6_1 x7_3 x8_3 x54_16 = some r) ∧ Aside0 (kq ≤ k3) ∧ Aside0 (Kd.R Kd.string 9 wc w.heap.size (fun _ => True) (.slice Ao12 t279.length co12) t279) ∧ Aside0 (Below w.heap.size w wc))
                      case first =>
                        have H := HC17.out
                        clear HC17
                        by_cases c18 : 0 ≤ x6_1
                        · rw [if_pos c18] at H
                          have c18b0 : decide (0 ≤ x6_1) = true := decide_eq_true c18
                          clear c18
                          (first | rw [c18b0] | (simp only [i64_w, i32_w]; rw [c18b0]) | skip)
                          by_cases c19 : x6_1 < (t279.length : Int)
                          · rw [if_pos c19] at H
                            have c19b0 : decide (x6_1 < (t279.length : Int)) = true := decide_eq_true c19
                            clear c19
                            by_cases c20 : x8_3 < ((rdOf ByteArray.empty t279 x6_1).size : Int)
                            · rw [if_pos c20] at H
                              have c20b0 : decide (x8_3 < ((rdOf ByteArray.empty t279 x6_1).size : Int)) = true := decide_eq_true c20
                              clear c20
                              by_cases c21 : 0 < ((rdOf ByteArray.empty t279 x6_1).size : Int)
                              · rw [if_pos c21] at H
                                have c21b0 : decide (0 < ((rdOf ByteArray.empty t279 x6_1).size : Int)) = true := decide_eq_true c21
                                have c21b1 : decide (0 < (rdOf ByteArray.empty t279 x6_1).size) = true := decide_eq_true (by omega)
                                clear c21
                                have H' := Aside0.mk H
                                clear H
                                have p284 : 0 ≤ (x6_1 : Int) := of_decide_eq_true (by first | (with_reducible assumption) | assumption)
                                have q284 : x6_1 < (t279.length : Int) := of_decide_eq_true (by first | (with_reducible assumption) | assumption)
                                obtain ⟨ad284, e284, hx284_0⟩ := Kd.at_string (Kd.R_reads' HO_5.out).2.2 x6_1 p284 q284
                                cases e284
                                replace p284 := eq_true p284
                                replace q284 := eq_true q284
                                have p285 : 0 ≤ (x6_1 : Int) := of_decide_eq_true (by first | (with_reducible assumption) | assumption)
                                have q285 : x6_1 < (t279.length : Int) := of_decide_eq_true (by first | (with_reducible assumption) | assumption)
                                obtain ⟨ad285, e285, hx285_0⟩ := Kd.at_string (Kd.R_reads' HO_5.out).2.2 x6_1 p285 q285
                                obtain rfl : ad284 = ad285 := (by injection e285)
                                replace p285 := eq_true p285
                                replace q285 := eq_true q285
                                have p22 : 0 ≤ (0 : Int) := (by omega)
                                have q22 : 0 < (rdOf ByteArray.empty t279 x6_1).size := (by have : (0 : Int) < ((rdOf ByteArray.empty t279 x6_1).size : Int) := of_decide_eq_true (by first | (with_reducible assumption) | assumption); omega)
                                have hx22 : ∀ h : 0 < (rdOf ByteArray.empty t279 x6_1).size, (((rdOf ByteArray.empty t279 x6_1)[0]'h).toNat : Int) = bt (rdOf ByteArray.empty t279 x6_1) 0 := bt_at (rdOf ByteArray.empty t279 x6_1) 0
                                clear p22
                                have qi22 : (0 < ((rdOf ByteArray.empty t279 x6_1).size : Int)) = True := eq_true (of_decide_eq_true (by first | (with_reducible assumption) | assumption))
                                replace q22 := eq_true q22
                                go_wp2
                                go_meet
                                case rel => exact ⟨_, (((bt (rdOf ByteArray.empty t279 x6_1) 0) != 32)), (by first | rfl | (simp; done) | (simp [*]; done)), H', ⟨by have := HK1.out; have := HJ10.out; have := HK3.out; first | omega | exact Nat.le_refl _⟩, ⟨by (with_reducible repeat (first | apply Kd.R_alloc | apply Kd.R_drewN | apply Kd.R_drew)); exact HO_5.out⟩, ⟨by repeat (first | (with_reducible first | exact HB.out | apply below_alloc | apply pw_below_drewN | apply below_drew1) | exact HB.out)⟩⟩
                              · rw [if_neg c21] at H
                                exact absurd H (by simp)
                            · rw [if_neg c20] at H
                              have c20b0 : decide (x8_3 < ((rdOf ByteArray.empty t279 x6_1).size : Int)) = false := decide_eq_false c20
                              clear c20
                              have H' := Aside0.mk H
                              clear H
                              have p284 : 0 ≤ (x6_1 : Int) := of_decide_eq_true (by first | (with_reducible assumption) | assumption)
                              have q284 : x6_1 < (t279.length : Int) := of_decide_eq_true (by first | (with_reducible assumption) | assumption)
                              obtain ⟨ad284, e284, hx284_0⟩ := Kd.at_string (Kd.R_reads' HO_5.out).2.2 x6_1 p284 q284
                              cases e284
                              replace p284 := eq_true p284
                              replace q284 := eq_true q284
                              go_wp2
                              go_meet
                              case rel => exact ⟨_, (false), (by first | rfl | (simp; done) | (simp [*]; done)), H', ⟨by have := HK1.out; have := HJ10.out; have := HK3.out; first | omega | exact Nat.le_refl _⟩, ⟨by (with_reducible repeat (first | apply Kd.R_alloc | apply Kd.R_drewN | apply Kd.R_drew)); exact HO_5.out⟩, ⟨by repeat (first | (with_reducible first | exact HB.out | apply below_alloc | apply pw_below_drewN | apply below_drew1) | exact HB.out)⟩⟩
                          · rw [if_neg c19] at H
                            exact absurd H (by simp)
                        · rw [if_neg c18] at H
                          exact absurd H (by simp)
                      case rest =>
                        clear HC17
                        try clear c1
                        try clear c2
                        try clear p2
                        try clear q2
                        try clear hx2
                        try clear qi2
                        try clear c4
                        try clear c7
                        try clear c10
                        try clear c10b0
                        try clear c13
                        try clear c13b0
                        try clear c14
                        try clear c14b0
                        try clear c14b1
                        try clear c15
                        try clear c18
                        try clear c18b0
                        try clear c19
                        try clear c19b0
                        try clear c20
                        try clear c20b0
                        try clear c21
                        try clear c21b0
                        try clear c21b1
                        try clear p22
                        try clear q22
                        try clear hx22
                        try clear qi22
                        try clear hx282_0
                        try clear hx283_0
                        try clear hx284_0
                        try clear hx285_0
                        try clear p2
                        try clear p22
                        try clear p282
                        try clear p283
                        try clear p284
                        try clear p285
                        try clear q2
                        try clear q22
                        try clear q282
                        try clear q283
                        try clear q284
                        try clear q285
                        obtain ⟨kq, x54_16, rfl, HA, HJ16, HO_5, HB⟩ := hcut
                        cases kq with
                        | zero => exact absurd HA.out (by simp [missivelaw09_HeaderFolds.j3])
                        | succ kj16 =>
                          have H := HA.out
                          clear HA
                          simp only [missivelaw09_HeaderFolds.j3] at H
                          by_cases c23 : x54_16 = true
                          · subst c23
                            have H1 : (if 0 ≤ x6_1 then (if x6_1 < (t279.length : Int) then (if 0 ≤ x8_3 then (if x8_3 < ((rdOf ByteArray.empty t279 x6_1).size : Int) then (if (bt (rdOf ByteArray.empty t279 x6_1) x8_3) = 58 then (missivelaw09_HeaderFolds.j4 kj16 l0 t276 t278 t279 x6_1 (wrap64 (x8_3 + 2))) else (missivelaw09_HeaderFolds.l1 kj16 l0 t276 t278 t279 x6_1 x7_3 (wrap64 (x8_3 + 1)))) else (none)) else (none)) else (none)) else (none)) = some r := by rw [if_pos rfl] at H; exact H
                            clear H
                            have H := H1
                            clear H1
                            by_cases c24 : 0 ≤ x6_1
                            · rw [if_pos c24] at H
                              have c24b0 : decide (0 ≤ x6_1) = true := decide_eq_true c24
                              clear c24
                              by_cases c25 : x6_1 < (t279.length : Int)
                              · rw [if_pos c25] at H
                                have c25b0 : decide (x6_1 < (t279.length : Int)) = true := decide_eq_true c25
                                clear c25
                                by_cases c26 : 0 ≤ x8_3
                                · rw [if_pos c26] at H
                                  have c26b0 : decide (0 ≤ x8_3) = true := decide_eq_true c26
                                  clear c26
                                  by_cases c27 : x8_3 < ((rdOf ByteArray.empty t279 x6_1).size : Int)
                                  · rw [if_pos c27] at H
                                    have c27b0 : decide (x8_3 < ((rdOf ByteArray.empty t279 x6_1).size : Int)) = true := decide_eq_true c27
                                    clear c27
                                    by_cases c29 : (bt (rdOf ByteArray.empty t279 x6_1) x8_3) = 58
                                    · rw [if_pos c29] at H
                                      have c29b0 : ((bt (rdOf ByteArray.empty t279 x6_1) x8_3) == 58) = true := beq_iff_eq.mpr c29
                                      have c29b1 : ((bt (rdOf ByteArray.empty t279 x6_1) x8_3) != 58) = false := bne_eq_false_iff_eq.mpr c29
                                      clear c29
                                      have H' := Aside0.mk H
                                      clear H
                                      have p286 : 0 ≤ (x6_1 : Int) := of_decide_eq_true (by first | (with_reducible assumption) | assumption)
                                      have q286 : x6_1 < (t279.length : Int) := of_decide_eq_true (by first | (with_reducible assumption) | assumption)
                                      obtain ⟨ad286, e286, hx286_0⟩ := Kd.at_string (Kd.R_reads' HO_5.out).2.2 x6_1 p286 q286
                                      cases e286
                                      replace p286 := eq_true p286
                                      replace q286 := eq_true q286
                                      have p28 : 0 ≤ (x8_3 : Int) := of_decide_eq_true (by first | (with_reducible assumption) | assumption)
                                      have q28 : x8_3 < ((rdOf ByteArray.empty t279 x6_1).size : Int) := of_decide_eq_true (by first | (with_reducible assumption) | assumption)
                                      have hx28 := bt_at (rdOf ByteArray.empty t279 x6_1) x8_3
                                      replace p28 := eq_true p28
                                      replace q28 := eq_true q28
                                      go_wp2
                                      go_meet
                                      case rel => exact ⟨_, (wrap64 (x8_3 + 2)), (by first | rfl | (simp; done) | (simp [*]; done)), H', ⟨by have := HK1.out; have := HJ10.out; have := HK3.out; have := HJ16.out; first | omega | exact Nat.le_refl _⟩, ⟨by (with_reducible repeat (first | apply Kd.R_alloc | apply Kd.R_drewN | apply Kd.R_drew)); exact HO_5.out⟩, ⟨by repeat (first | (with_reducible first | exact HB.out | apply below_alloc | apply pw_below_drewN | apply below_drew1) | exact HB.out)⟩⟩
                                    · rw [if_neg c29] at H
                                      have c29b0 : ((bt (rdOf ByteArray.empty t279 x6_1) x8_3) == 58) = false := beq_eq_false_iff_ne.mpr c29
                                      have c29b1 : ((bt (rdOf ByteArray.empty t279 x6_1) x8_3) != 58) = true := bne_iff_ne.mpr c29
                                      have H' := Aside0.mk H
                                      clear H
                                      have p286 : 0 ≤ (x6_1 : Int) := of_decide_eq_true (by first | (with_reducible assumption) | assumption)
                                      have q286 : x6_1 < (t279.length : Int) := of_decide_eq_true (by first | (with_reducible assumption) | assumption)
                                      obtain ⟨ad286, e286, hx286_0⟩ := Kd.at_string (Kd.R_reads' HO_5.out).2.2 x6_1 p286 q286
                                      cases e286
                                      replace p286 := eq_true p286
                                      replace q286 := eq_true q286
                                      have p28 : 0 ≤ (x8_3 : Int) := of_decide_eq_true (by first | (with_reducible assumption) | assumption)
                                      have q28 : x8_3 < ((rdOf ByteArray.empty t279 x6_1).size : Int) := of_decide_eq_true (by first | (with_reducible assumption) | assumption)
                                      have hx28 := bt_at (rdOf ByteArray.empty t279 x6_1) x8_3
                                      replace p28 := eq_true p28
                                      replace q28 := eq_true q28
                                      go_wp2
                                      go_roundg kj16
                                      case measure => have := HK1.out; have := HJ10.out; have := HK3.out; have := HJ16.out; omega
                                      case rel => exact ⟨(x7_3), (wrap64 (x8_3 + 1)), (by first | rfl | (simp; done) | (simp [*]; done)), (by first | rfl | (simp; done) | (simp [*]; done)), H', ⟨by have := HK1.out; have := HJ10.out; have := HK3.out; have := HJ16.out; omega⟩, ⟨by (with_reducible repeat (first | apply Kd.R_alloc | apply Kd.R_drewN | apply Kd.R_drew)); exact HO_5.out⟩, ⟨by repeat (first | (with_reducible first | exact HB.out | apply below_alloc | apply pw_below_drewN | apply below_drew1) | exact HB.out)⟩⟩
                                  · rw [if_neg c27] at H
                                    exact absurd H (by simp)
                                · rw [if_neg c26] at H
                                  exact absurd H (by simp)
                              · rw [if_neg c25] at H
                                exact absurd H (by simp)
                            · rw [if_neg c24] at H
                              exact absurd H (by simp)
                          · replace c23 := Bool.eq_false_iff.mpr c23
                            subst c23
                            have H1 : (missivelaw09_HeaderFolds.j4 kj16 l0 t276 t278 t279 x6_1 x7_3) = some r := by rw [if_neg (show ¬ (false = true) by decide)] at H; exact H
                            clear H
                            have H := H1
                            clear H1
                            have H' := Aside0.mk H
                            clear H
                            go_wp2
                            go_meet
                            case rel => exact ⟨_, (x7_3), (by first | rfl | (simp; done) | (simp [*]; done)), H', ⟨by have := HK1.out; have := HJ10.out; have := HK3.out; have := HJ16.out; first | omega | exact Nat.le_refl _⟩, ⟨by (with_reducible repeat (first | apply Kd.R_alloc | apply Kd.R_drewN | apply Kd.R_drew)); exact HO_5.out⟩, ⟨by repeat (first | (with_reducible first | exact HB.out | apply below_alloc | apply pw_below_drewN | apply below_drew1) | exact HB.out)⟩⟩
                case rest =>
                  clear HC16
                  try clear c1
                  try clear c2
                  try clear p2
                  try clear q2
                  try clear hx2
                  try clear qi2
                  try clear c4
                  try clear p6
                  try clear c7
                  try clear c10
                  try clear c10b0
                  try clear c13
                  try clear c13b0
                  try clear c14
                  try clear c14b0
                  try clear c14b1
                  try clear c15
                  try clear c18
                  try clear c18b0
                  try clear c19
                  try clear c19b0
                  try clear c20
                  try clear c20b0
                  try clear c21
                  try clear c21b0
                  try clear c21b1
                  try clear p22
                  try clear q22
                  try clear hx22
                  try clear qi22
                  try clear c23
                  try clear c24
                  try clear c24b0
                  try clear c25
                  try clear c25b0
                  try clear c26
                  try clear c26b0
                  try clear c27
                  try clear c27b0
                  try clear p28
                  try clear q28
                  try clear hx28
                  try clear c29
                  try clear c29b0
                  try clear c29b1
                  try clear hx282_0
                  try clear hx283_0
                  try clear hx284_0
                  try clear hx285_0
                  try clear hx286_0
                  try clear p2
                  try clear p22
                  try clear p28
                  try clear p282
                  try clear p283
                  try clear p284
                  try clear p285
                  try clear p286
                  try clear q2
                  try clear q22
                  try clear q28
                  try clear q282
                  try clear q283
                  try clear q284
                  try clear q285
                  try clear q286
                  obtain ⟨kq, x7_15, rfl, HA, HJ15, HO_5, HB⟩ := hcut
                  cases kq with
                  | zero => exact absurd HA.out (by simp [missivelaw09_HeaderFolds.j4])
                  | succ kj15 =>
                    have H := HA.out
                    clear HA
                    simp only [missivelaw09_HeaderFolds.j4] at H
                    have H' := Aside0.mk H
                    clear H
                    go_wp2
                    go_loopg [9] kj15 (fun kq v9 w' => ∃ (x9_4 : Int), v9 = .int .i64 x9_4 ∧ Aside0 (missivelaw09_HeaderFolds.l2 kq l0 t276 t278 t279 x6_1 x9_4 = some r) ∧ Aside0 (kq ≤ kj15) ∧ Aside0 (Kd.R Kd.string 9 w' w.heap.size (fun _ => True) (.slice Ao12 t279.length co12) t279) ∧ Aside0 (Below w.heap.size w w'))
                    case atStart => exact ⟨(x7_15), (by first | rfl | (simp; done) | (simp [*]; done)), H', ⟨Nat.le_refl _⟩, ⟨by (with_reducible repeat (first | apply Kd.R_alloc | apply Kd.R_drewN | apply Kd.R_drew)); exact HO_5.out⟩, ⟨by repeat (first | (with_reducible first | exact HB.out | apply below_alloc | apply pw_below_drewN | apply below_drew1) | exact HB.out)⟩⟩
                    case round =>
                      clear H'
                      try clear c1
                      try clear c2
                      try clear p2
                      try clear q2
                      try clear hx2
                      try clear qi2
                      try clear c4
                      try clear p6
                      try clear c7
                      try clear c10
                      try clear c10b0
                      try clear c13
                      try clear c13b0
                      try clear c14
                      try clear c14b0
                      try clear c14b1
                      try clear c15
                      try clear c18
                      try clear c18b0
                      try clear c19
                      try clear c19b0
                      try clear c20
                      try clear c20b0
                      try clear c21
                      try clear c21b0
                      try clear c21b1
                      try clear p22
                      try clear q22
                      try clear hx22
                      try clear qi22
                      try clear c23
                      try clear c24
                      try clear c24b0
                      try clear c25
                      try clear c25b0
                      try clear c26
                      try clear c26b0
                      try clear c27
                      try clear c27b0
                      try clear p28
                      try clear q28
                      try clear hx28
                      try clear c29
                      try clear c29b0
                      try clear c29b1
                      try clear hx282_0
                      try clear hx283_0
                      try clear hx284_0
                      try clear hx285_0
                      try clear hx286_0
                      try clear p2
                      try clear p22
                      try clear p28
                      try clear p282
                      try clear p283
                      try clear p284
                      try clear p285
                      try clear p286
                      try clear p6
                      try clear q2
                      try clear q22
                      try clear q28
                      try clear q282
                      try clear q283
                      try clear q284
                      try clear q285
                      try clear q286
                      obtain ⟨x9_4, rfl, HA, HK4, HO_5, HB⟩ := hrel
                      cases gk with
                      | zero => exact absurd HA.out (by simp [missivelaw09_HeaderFolds.l2])
                      | succ k4 =>
                        have H := HA.out
                        clear HA
                        simp only [missivelaw09_HeaderFolds.l2] at H
                        have HC30 := Aside0.mk H
                        clear H
                        go_upto_region 18 with (fail)
                        go_cut [76] (fun v76 wc => ∃ (kq : Nat) (x76_29 : Bool), v76 = .bool x76_29 ∧ Aside0 (missivelaw09_HeaderFolds.j6 kq l0 t276 t278 t279 x6_1 x9_4 x76_29 = some r) ∧ Aside0 (kq ≤ k4) ∧ Aside0 (Kd.R Kd.string 9 wc w.heap.size (fun _ => True) (.slice Ao12 t279.length co12) t279) ∧ Aside0 (Below w.heap.size w wc))
                        case first =>
                          have H := HC30.out
                          clear HC30
                          by_cases c31 : x9_4 ≤ 78
                          · rw [if_pos c31] at H
                            have c31b0 : decide (x9_4 ≤ 78) = true := decide_eq_true c31
                            clear c31
                            (first | rw [c31b0] | (simp only [i64_w, i32_w]; rw [c31b0]) | skip)
                            by_cases c32 : 0 ≤ x6_1
                            · rw [if_pos c32] at H
                              have c32b0 : decide (0 ≤ x6_1) = true := decide_eq_true c32
                              clear c32
                              by_cases c33 : x6_1 < (t279.length : Int)
                              · rw [if_pos c33] at H
                                have c33b0 : decide (x6_1 < (t279.length : Int)) = true := decide_eq_true c33
                                clear c33
                                have H' := Aside0.mk H
                                clear H
                                have p287 : 0 ≤ (x6_1 : Int) := of_decide_eq_true (by first | (with_reducible assumption) | assumption)
                                have q287 : x6_1 < (t279.length : Int) := of_decide_eq_true (by first | (with_reducible assumption) | assumption)
                                obtain ⟨ad287, e287, hx287_0⟩ := Kd.at_string (Kd.R_reads' HO_5.out).2.2 x6_1 p287 q287
                                cases e287
                                replace p287 := eq_true p287
                                replace q287 := eq_true q287
                                go_wp2
                                go_meet
                                case rel => exact ⟨_, (decide (((rdOf ByteArray.empty t279 x6_1).size : Int) > 78)), (by first | rfl | (simp; done) | (simp [*]; done)), H', ⟨by have := HK1.out; have := HJ10.out; have := HJ15.out; have := HK4.out; first | omega | exact Nat.le_refl _⟩, ⟨by (with_reducible repeat (first | apply Kd.R_alloc | apply Kd.R_drewN | apply Kd.R_drew)); exact HO_5.out⟩, ⟨by repeat (first | (with_reducible first | exact HB.out | apply below_alloc | apply pw_below_drewN | apply below_drew1) | exact HB.out)⟩⟩
                              · rw [if_neg c33] at H
                                exact absurd H (by simp)
                            · rw [if_neg c32] at H
                              exact absurd H (by simp)
                          · rw [if_neg c31] at H
                            have c31b0 : decide (x9_4 ≤ 78) = false := decide_eq_false c31
                            clear c31
                            (first | rw [c31b0] | (simp only [i64_w, i32_w]; rw [c31b0]) | skip)
                            have H' := Aside0.mk H
                            clear H
                            go_wp2
                            go_meet
                            case rel => exact ⟨_, (false), (by first | rfl | (simp; done) | (simp [*]; done)), H', ⟨by have := HK1.out; have := HJ10.out; have := HJ15.out; have := HK4.out; first | omega | exact Nat.le_refl _⟩, ⟨by (with_reducible repeat (first | apply Kd.R_alloc | apply Kd.R_drewN | apply Kd.R_drew)); exact HO_5.out⟩, ⟨by repeat (first | (with_reducible first | exact HB.out | apply below_alloc | apply pw_below_drewN | apply below_drew1) | exact HB.out)⟩⟩
                        case rest =>
                          clear HC30
                          try clear c1
                          try clear c2
                          try clear p2
                          try clear q2
                          try clear hx2
                          try clear qi2
                          try clear c3
                          try clear c4
                          try clear p6
                          try clear c7
                          try clear c10
                          try clear c10b0
                          try clear c13
                          try clear c13b0
                          try clear c14
                          try clear c14b0
                          try clear c14b1
                          try clear c15
                          try clear c18
                          try clear c18b0
                          try clear c19
                          try clear c19b0
                          try clear c20
                          try clear c20b0
                          try clear c21
                          try clear c21b0
                          try clear c21b1
                          try clear p22
                          try clear q22
                          try clear hx22
                          try clear qi22
                          try clear c23
                          try clear c24
                          try clear c24b0
                          try clear c25
                          try clear c25b0
                          try clear c26
                          try clear c26b0
                          try clear c27
                          try clear c27b0
                          try clear p28
                          try clear q28
                          try clear hx28
                          try clear c29
                          try clear c29b0
                          try clear c29b1
                          try clear c31
                          try clear c31b0
                          try clear c32
                          try clear c32b0
                          try clear c33
                          try clear c33b0
                          try clear hx282_0
                          try clear hx283_0
                          try clear hx284_0
                          try clear hx285_0
                          try clear hx286_0
                          try clear hx287_0
                          try clear p2
                          try clear p22
                          try clear p28
                          try clear p282
                          try clear p283
                          try clear p284
                          try clear p285
                          try clear p286
                          try clear p287
                          try clear p6
                          try clear q2
                          try clear q22
                          try clear q28
                          try clear q282
                          try clear q283
                          try clear q284
                          try clear q285
                          try clear q286
                          try clear q287
                          obtain ⟨kq, x76_29, rfl, HA, HJ29, HO_5, HB⟩ := hcut
                          cases kq with
                          | zero => exact absurd HA.out (by simp [missivelaw09_HeaderFolds.j6])
                          | succ kj29 =>
                            have H := HA.out
                            clear HA
                            simp only [missivelaw09_HeaderFolds.j6] at H
                            by_cases c34 : x76_29 = true
                            · subst c34
                              have H1 : (if 0 ≤ x6_1 then (if x6_1 < (t279.length : Int) then ((missiveref09_Fold.f (rdOf ByteArray.empty t279 x6_1) x9_4).bind fun t289 => (if t289 = true then (some false) else (missivelaw09_HeaderFolds.l2 kj29 l0 t276 t278 t279 x6_1 (wrap64 (x9_4 + 1))))) else (none)) else (none)) = some r := by rw [if_pos rfl] at H; exact H
                              clear H
                              have H := H1
                              clear H1
                              by_cases c35 : 0 ≤ x6_1
                              · rw [if_pos c35] at H
                                have c35b0 : decide (0 ≤ x6_1) = true := decide_eq_true c35
                                clear c35
                                by_cases c36 : x6_1 < (t279.length : Int)
                                · rw [if_pos c36] at H
                                  have c36b0 : decide (x6_1 < (t279.length : Int)) = true := decide_eq_true c36
                                  clear c36
                                  replace H := Option.bind_eq_some_iff.mp H
                                  obtain ⟨t289, A370, H⟩ := H
                                  replace H : (if t289 = true then (some false) else (missivelaw09_HeaderFolds.l2 kj29 l0 t276 t278 t279 x6_1 (wrap64 (x9_4 + 1)))) = some r := H
                                  have A37 := Aside0.mk A370
                                  clear A370
                                  by_cases c38 : t289 = true
                                  · subst c38
                                    have H1 : (some false) = some r := by rw [if_pos rfl] at H; exact H
                                    clear H
                                    have H := H1
                                    clear H1
                                    obtain rfl := Option.some.inj H
                                    have p288 : 0 ≤ (x6_1 : Int) := of_decide_eq_true (by first | (with_reducible assumption) | assumption)
                                    have q288 : x6_1 < (t279.length : Int) := of_decide_eq_true (by first | (with_reducible assumption) | assumption)
                                    obtain ⟨ad288, e288, hx288_0⟩ := Kd.at_string (Kd.R_reads' HO_5.out).2.2 x6_1 p288 q288
                                    cases e288
                                    replace p288 := eq_true p288
                                    replace q288 := eq_true q288
                                    go_wp2_with (first | ((with_reducible refine gate_callee (f := 26) rfl ?_); refine goesL_ (some 84) rfl rfl Tryz.func26 (by kernel_rfl) rfl #[.string (rdOf ByteArray.empty t279 x6_1), .int .i64 x9_4] rfl (by (try simp only [List.map_toArray, List.map_cons, List.map_nil]); first | done | rfl | (simp only [List.length_drop, List.length_take]; rfl)) ?_; (with_reducible refine (missiveref09_Fold.calls (rdOf ByteArray.empty t279 x6_1) x9_4 true _ A37.out).mono ?_); rintro e w' ⟨rfl, ⟨nd, rfl⟩⟩; refine ⟨_, rfl, ?_⟩))
                                    go_ret
                                    exact ⟨by first | rfl | (simp [errW_none, errW_some]; done) | (simp [errW_none, errW_some]; exact isEmpty_nbne _) | (simp [errW_none, errW_some]; exact isEmpty_bne _) | (simp [errW_none, errW_some] <;> rfl) | (simp [*, errW_none, errW_some] <;> rfl), by repeat (first | (with_reducible first | exact HB.out | apply below_alloc | apply pw_below_drewN | apply below_drew1) | exact HB.out)⟩
                                  · replace c38 := Bool.eq_false_iff.mpr c38
                                    subst c38
                                    have H1 : (missivelaw09_HeaderFolds.l2 kj29 l0 t276 t278 t279 x6_1 (wrap64 (x9_4 + 1))) = some r := by rw [if_neg (show ¬ (false = true) by decide)] at H; exact H
                                    clear H
                                    have H := H1
                                    clear H1
                                    have H' := Aside0.mk H
                                    clear H
                                    have p288 : 0 ≤ (x6_1 : Int) := of_decide_eq_true (by first | (with_reducible assumption) | assumption)
                                    have q288 : x6_1 < (t279.length : Int) := of_decide_eq_true (by first | (with_reducible assumption) | assumption)
                                    obtain ⟨ad288, e288, hx288_0⟩ := Kd.at_string (Kd.R_reads' HO_5.out).2.2 x6_1 p288 q288
                                    cases e288
                                    replace p288 := eq_true p288
                                    replace q288 := eq_true q288
                                    go_wp2_with (first | ((with_reducible refine gate_callee (f := 26) rfl ?_); refine goesL_ (some 84) rfl rfl Tryz.func26 (by kernel_rfl) rfl #[.string (rdOf ByteArray.empty t279 x6_1), .int .i64 x9_4] rfl (by (try simp only [List.map_toArray, List.map_cons, List.map_nil]); first | done | rfl | (simp only [List.length_drop, List.length_take]; rfl)) ?_; (with_reducible refine (missiveref09_Fold.calls (rdOf ByteArray.empty t279 x6_1) x9_4 false _ A37.out).mono ?_); rintro e w' ⟨rfl, ⟨nd, rfl⟩⟩; refine ⟨_, rfl, ?_⟩))
                                    go_roundg kj29
                                    case measure => have := HK1.out; have := HJ10.out; have := HJ15.out; have := HK4.out; have := HJ29.out; omega
                                    case rel => exact ⟨(wrap64 (x9_4 + 1)), (by first | rfl | (simp; done) | (simp [*]; done)), H', ⟨by have := HK1.out; have := HJ10.out; have := HJ15.out; have := HK4.out; have := HJ29.out; omega⟩, ⟨by (with_reducible repeat (first | apply Kd.R_alloc | apply Kd.R_drewN | apply Kd.R_drew)); exact HO_5.out⟩, ⟨by repeat (first | (with_reducible first | exact HB.out | apply below_alloc | apply pw_below_drewN | apply below_drew1) | exact HB.out)⟩⟩
                                · rw [if_neg c36] at H
                                  exact absurd H (by simp)
                              · rw [if_neg c35] at H
                                exact absurd H (by simp)
                            · replace c34 := Bool.eq_false_iff.mpr c34
                              subst c34
                              have H1 : (missivelaw09_HeaderFolds.l0 kj29 l0 t276 t278 t279 (wrap64 (x6_1 + 1))) = some r := by rw [if_neg (show ¬ (false = true) by decide)] at H; exact H
                              clear H
                              have H := H1
                              clear H1
                              have H' := Aside0.mk H
                              clear H
                              go_wp2
                              go_roundg kj29
                              case measure => have := HK1.out; have := HJ10.out; have := HJ15.out; have := HK4.out; have := HJ29.out; omega
                              case rel => exact ⟨(wrap64 (x6_1 + 1)), (by first | rfl | (simp; done) | (simp [*]; done)), H', ⟨by have := HK1.out; have := HJ10.out; have := HJ15.out; have := HK4.out; have := HJ29.out; omega⟩, ⟨by (with_reducible repeat (first | apply Kd.R_alloc | apply Kd.R_drewN | apply Kd.R_drew)); exact HO_5.out⟩, ⟨by repeat (first | (with_reducible first | exact HB.out | apply below_alloc | apply pw_below_drewN | apply below_drew1) | exact HB.out)⟩⟩
        · rw [if_neg c10] at H
          have c10b0 : decide (x6_1 < (t279.length : Int)) = false := decide_eq_false c10
          clear c10
          have H' := Aside0.mk H
          clear H
          obtain ⟨Ao39, co39, eo39⟩ := Kd.R_slice HO_5.out
          subst eo39
          go_wp2
          go_loopg [10, 11] k1 (fun kq v10 v11 w' => ∃ (x10_2 : List Int) (x11_2 : Int), v11 = .int .i64 x11_2 ∧ Aside0 (missivelaw09_HeaderFolds.l3 kq l0 t276 t278 x10_2 x11_2 = some r) ∧ Aside0 (kq ≤ k1) ∧ Aside0 (Kd.R (Kd.int .u8) 5 w' w.heap.size (fun _ => True) v10 x10_2) ∧ Aside0 (Below w.heap.size w w'))
          case atStart => exact ⟨(([] : List Int)), (0), (by first | rfl | (simp; done) | (simp [*]; done)), H', ⟨Nat.le_refl _⟩, ⟨by first | exact Kd.R_nil _ _ _ _ _ | exact Kd.N_nil _ _ _ _ _ | exact Kd.V_nil _ _ _ _ _ | exact Kd.Q_nil _ _ _ _ _ | exact Kd.S_nil _ _ _ _ _⟩, ⟨by repeat (first | (with_reducible first | exact HB.out | apply below_alloc | apply pw_below_drewN | apply below_drew1) | exact HB.out)⟩⟩
          case round =>
            clear H'
            try clear c1
            try clear c2
            try clear p2
            try clear q2
            try clear hx2
            try clear qi2
            try clear c3
            try clear c4
            try clear p6
            try clear c7
            try clear c10
            try clear c10b0
            try clear c13
            try clear c13b0
            try clear c14
            try clear c14b0
            try clear c14b1
            try clear c15
            try clear c18
            try clear c18b0
            try clear c19
            try clear c19b0
            try clear c20
            try clear c20b0
            try clear c21
            try clear c21b0
            try clear c21b1
            try clear p22
            try clear q22
            try clear hx22
            try clear qi22
            try clear c23
            try clear c24
            try clear c24b0
            try clear c25
            try clear c25b0
            try clear c26
            try clear c26b0
            try clear c27
            try clear c27b0
            try clear p28
            try clear q28
            try clear hx28
            try clear c29
            try clear c29b0
            try clear c29b1
            try clear c31
            try clear c31b0
            try clear c32
            try clear c32b0
            try clear c33
            try clear c33b0
            try clear c34
            try clear c35
            try clear c35b0
            try clear c36
            try clear c36b0
            try clear c38
            try clear hx282_0
            try clear hx283_0
            try clear hx284_0
            try clear hx285_0
            try clear hx286_0
            try clear hx287_0
            try clear hx288_0
            try clear p2
            try clear p22
            try clear p28
            try clear p282
            try clear p283
            try clear p284
            try clear p285
            try clear p286
            try clear p287
            try clear p288
            try clear p6
            try clear q2
            try clear q22
            try clear q28
            try clear q282
            try clear q283
            try clear q284
            try clear q285
            try clear q286
            try clear q287
            try clear q288
            obtain ⟨x10_2, x11_2, rfl, HA, HK2, HO_10, HB⟩ := hrel
            cases gk with
            | zero => exact absurd HA.out (by simp [missivelaw09_HeaderFolds.l3])
            | succ k2 =>
              have H := HA.out
              clear HA
              simp only [missivelaw09_HeaderFolds.l3] at H
              by_cases c40 : x11_2 < (l0.length : Int)
              · rw [if_pos c40] at H
                have c40b0 : decide (x11_2 < (l0.length : Int)) = true := decide_eq_true c40
                clear c40
                by_cases c41 : 0 ≤ x11_2
                · rw [if_pos c41] at H
                  have c41b0 : decide (0 ≤ x11_2) = true := decide_eq_true c41
                  clear c41
                  replace H := Option.bind_eq_some_iff.mp H
                  obtain ⟨t291, A420, H⟩ := H
                  replace H : (if t291 = true then (if ((rd_T35 l0 x11_2).f0).size + 1 ≤ 9223372036854775807 then (if (((rd_T35 l0 x11_2).f0) ++ (⟨#[58]⟩ : ByteArray)).size + ((rd_T35 l0 x11_2).f1).size ≤ 9223372036854775807 then (if x10_2.length + ((((rd_T35 l0 x11_2).f0) ++ (⟨#[58]⟩ : ByteArray)) ++ ((rd_T35 l0 x11_2).f1)).size < 140737488355328 then (missivelaw09_HeaderFolds.l3 k2 l0 t276 t278 (x10_2 ++ bytesOf ((((rd_T35 l0 x11_2).f0) ++ (⟨#[58]⟩ : ByteArray)) ++ ((rd_T35 l0 x11_2).f1))) (wrap64 (x11_2 + 1))) else (none)) else (none)) else (none)) else (missivelaw09_HeaderFolds.l3 k2 l0 t276 t278 x10_2 (wrap64 (x11_2 + 1)))) = some r := H
                  have A42 := Aside0.mk A420
                  clear A420
                  by_cases c43 : t291 = true
                  · subst c43
                    have H1 : (if ((rd_T35 l0 x11_2).f0).size + 1 ≤ 9223372036854775807 then (if (((rd_T35 l0 x11_2).f0) ++ (⟨#[58]⟩ : ByteArray)).size + ((rd_T35 l0 x11_2).f1).size ≤ 9223372036854775807 then (if x10_2.length + ((((rd_T35 l0 x11_2).f0) ++ (⟨#[58]⟩ : ByteArray)) ++ ((rd_T35 l0 x11_2).f1)).size < 140737488355328 then (missivelaw09_HeaderFolds.l3 k2 l0 t276 t278 (x10_2 ++ bytesOf ((((rd_T35 l0 x11_2).f0) ++ (⟨#[58]⟩ : ByteArray)) ++ ((rd_T35 l0 x11_2).f1))) (wrap64 (x11_2 + 1))) else (none)) else (none)) else (none)) = some r := by rw [if_pos rfl] at H; exact H
                    clear H
                    have H := H1
                    clear H1
                    by_cases c44 : ((rd_T35 l0 x11_2).f0).size + 1 ≤ 9223372036854775807
                    · rw [if_pos c44] at H
                      have c44b0 := eq_true c44
                      have c44b1 : decide (((rd_T35 l0 x11_2).f0).size + 1 ≤ 9223372036854775807) = true := decide_eq_true c44
                      try have c44b2 : (9223372036854775807 < ((rd_T35 l0 x11_2).f0).size + 1) = False := eq_false (Nat.not_lt.2 c44)
                      by_cases c45 : (((rd_T35 l0 x11_2).f0) ++ (⟨#[58]⟩ : ByteArray)).size + ((rd_T35 l0 x11_2).f1).size ≤ 9223372036854775807
                      · rw [if_pos c45] at H
                        have c45b0 := eq_true c45
                        have c45b1 : decide ((((rd_T35 l0 x11_2).f0) ++ (⟨#[58]⟩ : ByteArray)).size + ((rd_T35 l0 x11_2).f1).size ≤ 9223372036854775807) = true := decide_eq_true c45
                        try have c45b3 : (9223372036854775807 < ((rd_T35 l0 x11_2).f0).size + 1 + ((rd_T35 l0 x11_2).f1).size) = False := eq_false (by have h_ := c45; simp only [ByteArray.size_append] at h_; have z0_ : ((⟨#[58]⟩ : ByteArray)).size = 1 := rfl; omega)
                        try have c45b2 : (9223372036854775807 < (((rd_T35 l0 x11_2).f0) ++ (⟨#[58]⟩ : ByteArray)).size + ((rd_T35 l0 x11_2).f1).size) = False := eq_false (Nat.not_lt.2 c45)
                        by_cases c46 : x10_2.length + ((((rd_T35 l0 x11_2).f0) ++ (⟨#[58]⟩ : ByteArray)) ++ ((rd_T35 l0 x11_2).f1)).size < 140737488355328
                        · rw [if_pos c46] at H
                          have LMc46 := Aside0.mk c46
                          clear c46
                          obtain ⟨y294, hy294⟩ : ∃ y_ : List Int, y_ = (x10_2 ++ bytesOf ((((rd_T35 l0 x11_2).f0) ++ (⟨#[58]⟩ : ByteArray)) ++ ((rd_T35 l0 x11_2).f1))) := ⟨_, rfl⟩
                          replace H : (missivelaw09_HeaderFolds.l3 k2 l0 t276 t278 y294 (wrap64 (x11_2 + 1))) = some r := by first | (rw [hy294]; with_reducible exact H) | (have H2_ := (Option.bind_some _ _).symm.trans H; rw [hy294]; with_reducible exact H2_) | (have H2_ := (Option.bind_some _ _).symm.trans H; with_reducible exact H2_) | with_reducible exact H | (rw [hy294]; exact H) | exact H
                          have Ny294 := Aside0.mk hy294
                          clear hy294
                          have H' := Aside0.mk H
                          clear H
                          have p290 : 0 ≤ (x11_2 : Int) := of_decide_eq_true (by first | (with_reducible assumption) | assumption)
                          have q290 : x11_2 < (l0.length : Int) := of_decide_eq_true (by first | (with_reducible assumption) | assumption)
                          obtain ⟨ad290, e290, hx290_0, hx290_1⟩ := at_T35 HR0.out x11_2 p290 q290
                          cases e290
                          replace hx290_0 := (HB.out.cell (World.block_lt_of_cell? w _ hx290_0)).trans hx290_0
                          replace hx290_1 := (HB.out.cell (World.block_lt_of_cell? w _ hx290_1)).trans hx290_1
                          replace p290 := eq_true p290
                          replace q290 := eq_true q290
                          try go_wp2_with (first | ((with_reducible refine gate_callee (f := 19) rfl ?_); refine goesL_ (some 96) rfl rfl Tryz.func19 (by kernel_rfl) rfl #[.string ((rd_T35 l0 x11_2).f0)] rfl (by (try simp only [List.map_toArray, List.map_cons, List.map_nil]); first | done | rfl | (simp only [List.length_drop, List.length_take]; rfl)) ?_; (with_reducible refine (missiveref09_Named.calls k2 ((rd_T35 l0 x11_2).f0) true _ A42.out).mono ?_); rintro e w' ⟨rfl, ⟨nd, rfl⟩⟩; refine ⟨_, rfl, ?_⟩))
                          (try (rw [drewN_self wr]; generalize hq_ : World.drewN wr _ = wr; have n0_ : Aside0 (Kd.R (Kd.int .u8) 5 wr w.heap.size (fun _ => True) u10 x10_2) := ⟨by rw [← hq_]; exact (by (with_reducible repeat (first | apply Kd.R_alloc | apply Kd.R_drewN | apply Kd.R_drew)); exact HO_10.out)⟩; have n1_ : Aside0 (Below w.heap.size w wr) := ⟨by rw [← hq_]; exact (by repeat (first | (with_reducible first | exact HB.out | apply below_alloc | apply pw_below_drewN | apply below_drew1) | exact HB.out))⟩; clear HO_10 HB hq_; have HO_10 := n0_; have HB := n1_; clear n0_ n1_))
                          have n0_ := Aside0.mk (Kd.R_drew HO_10.out)
                          have n1_ := Aside0.mk (below_drew1 HB.out)
                          clear HO_10
                          clear HB
                          have HO_10 := n0_
                          have HB := n1_
                          clear n0_ n1_
                          have p292 : 0 ≤ (x11_2 : Int) := of_decide_eq_true (by first | (with_reducible assumption) | assumption)
                          have q292 : x11_2 < (l0.length : Int) := of_decide_eq_true (by first | (with_reducible assumption) | assumption)
                          obtain ⟨ad292, e292, hx292_0, hx292_1⟩ := at_T35 HR0.out x11_2 p292 q292
                          have hw292_1 := hx292_1
                          have hw292_0 := hx292_0
                          obtain rfl : ad290 = ad292 := (by injection e292)
                          replace hx292_0 := (HB.out.cell (World.block_lt_of_cell? w _ hx292_0)).trans hx292_0
                          replace hx292_1 := (HB.out.cell (World.block_lt_of_cell? w _ hx292_1)).trans hx292_1
                          replace p292 := eq_true p292
                          replace q292 := eq_true q292
                          have p293 : 0 ≤ (x11_2 : Int) := of_decide_eq_true (by first | (with_reducible assumption) | assumption)
                          have q293 : x11_2 < (l0.length : Int) := of_decide_eq_true (by first | (with_reducible assumption) | assumption)
                          obtain ⟨ad293, e293, hx293_0, hx293_1⟩ := at_T35 HR0.out x11_2 p293 q293
                          have hw293_1 := hx293_1
                          have hw293_0 := hx293_0
                          obtain rfl : ad290 = ad293 := (by injection e293)
                          replace hx293_0 := (HB.out.cell (World.block_lt_of_cell? w _ hx293_0)).trans hx293_0
                          replace hx293_1 := (HB.out.cell (World.block_lt_of_cell? w _ hx293_1)).trans hx293_1
                          replace p293 := eq_true p293
                          replace q293 := eq_true q293
                          refine start_ (n := 15) (S := fun w' => w'.cell? (ad290.add ((x11_2).toNat * 2)) = some (.string ((rd_T35 l0 x11_2).f0)) ∧ w'.cell? ⟨(ad290.add ((x11_2).toNat * 2)).block, (ad290.add ((x11_2).toNat * 2)).off + 1, none⟩ = some (.string ((rd_T35 l0 x11_2).f1)) ∧ w'.cell? (ad290.add ((x11_2).toNat * 2)) = some (.string ((rd_T35 l0 x11_2).f0)) ∧ w'.cell? ⟨(ad290.add ((x11_2).toNat * 2)).block, (ad290.add ((x11_2).toNat * 2)).off + 1, none⟩ = some (.string ((rd_T35 l0 x11_2).f1))) (ds := []) #[false, false, false, false, false, false, false, false, false, false, false, false, false, false, false] (by kernel_rfl) rfl rfl ⟨((HB.out.cell (World.block_lt_of_cell? w _ hw292_0)).trans hw292_0), ((HB.out.cell (World.block_lt_of_cell? w _ hw292_1)).trans hw292_1), ((HB.out.cell (World.block_lt_of_cell? w _ hw293_0)).trans hw293_0), ((HB.out.cell (World.block_lt_of_cell? w _ hw293_1)).trans hw293_1)⟩ (fun hHeld => ?_); refine with_tabW missivelaw09_HeaderFolds.tab27 missivelaw09_HeaderFolds.bits27 (fun HT_ HW_ => ?_)
                          generalize wr.drew = w47 at HO_10 HB hx292_0 hx292_1 hx293_0 hx293_1 hHeld ⊢
                          refine pure_ (i := 0) (N := some 97) (v := ?_) (a' := ?_) #[true, false, false, false, false, false, false, false, false, false, false, false, false, false, false] rfl rfl (any_of HT_.out (by kernel_rfl)) (fun _ _ _ h => h) (Or.inl ⟨by rfl, ?_⟩) ?_ ?_
                          rotate_left
                          · intro w'
                            go_simp
                            with_reducible rfl
                          rotate_left
                          · simp only [Act.put, List.setIfInBounds_toArray, List.set_cons_zero, List.set_cons_succ, i64_w, i32_w]
                            rfl
                          refine pure_ (i := 1) (N := some 98) (v := ?_) (a' := ?_) #[true, true, false, false, false, false, false, false, false, false, false, false, false, false, false] rfl rfl (any_of HT_.out (by kernel_rfl)) (fun _ _ _ h => h) (Or.inl ⟨by rfl, ?_⟩) ?_ ?_
                          rotate_left
                          · intro w'
                            go_simp
                            with_reducible rfl
                          rotate_left
                          · simp only [Act.put, List.setIfInBounds_toArray, List.set_cons_zero, List.set_cons_succ, i64_w, i32_w]
                            rfl
                          refine pure_ (i := 2) (N := some 99) (v := ?_) (a' := ?_) #[true, true, true, false, false, false, false, false, false, false, false, false, false, false, false] rfl rfl (any_of HT_.out (by kernel_rfl)) (fun _ _ _ h => h) (Or.inl ⟨by rfl, ?_⟩) ?_ ?_
                          rotate_left
                          · intro w'
                            go_simp
                            with_reducible rfl
                          rotate_left
                          · simp only [Act.put, List.setIfInBounds_toArray, List.set_cons_zero, List.set_cons_succ, i64_w, i32_w]
                            rfl
                          refine pure_ (i := 3) (N := some 100) (v := ?_) (a' := ?_) #[true, true, true, true, false, false, false, false, false, false, false, false, false, false, false] rfl rfl (any_of HT_.out (by kernel_rfl)) (fun _ _ _ h => h) (Or.inl ⟨by rfl, ?_⟩) ?_ ?_
                          rotate_left
                          · intro w'
                            go_simp
                            with_reducible rfl
                          rotate_left
                          · simp only [Act.put, List.setIfInBounds_toArray, List.set_cons_zero, List.set_cons_succ, i64_w, i32_w]
                            rfl
                          refine pure_ (i := 4) (N := some 101) (v := ?_) (a' := ?_) #[true, true, true, true, true, false, false, false, false, false, false, false, false, false, false] rfl rfl (any_of HT_.out (by kernel_rfl)) (fun _ _ _ h => h) (Or.inl ⟨by rfl, ?_⟩) ?_ ?_
                          rotate_left
                          · intro w'
                            go_simp
                            with_reducible rfl
                          rotate_left
                          · simp only [Act.put, List.setIfInBounds_toArray, List.set_cons_zero, List.set_cons_succ, i64_w, i32_w]
                            rfl
                          refine pure_ (i := 7) (N := some 104) (v := ?_) (a' := ?_) #[true, true, true, true, true, false, false, true, false, false, false, false, false, false, false] rfl rfl (any_of HT_.out (by kernel_rfl)) (fun _ _ _ h => h) (Or.inl ⟨by rfl, ?_⟩) ?_ ?_
                          rotate_left
                          · intro w'
                            go_simp
                            with_reducible rfl
                          rotate_left
                          · simp only [Act.put, List.setIfInBounds_toArray, List.set_cons_zero, List.set_cons_succ, i64_w, i32_w]
                            rfl
                          refine pure_ (i := 8) (N := some 105) (v := ?_) (a' := ?_) #[true, true, true, true, true, false, false, true, true, false, false, false, false, false, false] rfl rfl (any_of HT_.out (by kernel_rfl)) (fun _ _ _ h => h) (Or.inl ⟨by rfl, ?_⟩) ?_ ?_
                          rotate_left
                          · intro w'
                            go_simp
                            with_reducible rfl
                          rotate_left
                          · simp only [Act.put, List.setIfInBounds_toArray, List.set_cons_zero, List.set_cons_succ, i64_w, i32_w]
                            rfl
                          refine pure_ (i := 9) (N := some 106) (v := ?_) (a' := ?_) #[true, true, true, true, true, false, false, true, true, true, false, false, false, false, false] rfl rfl (any_of HT_.out (by kernel_rfl)) (fun _ _ _ h => h) (Or.inl ⟨by rfl, ?_⟩) ?_ ?_
                          rotate_left
                          · intro w'
                            go_simp
                            with_reducible rfl
                          rotate_left
                          · simp only [Act.put, List.setIfInBounds_toArray, List.set_cons_zero, List.set_cons_succ, i64_w, i32_w]
                            rfl
                          refine pure_ (i := 10) (N := some 107) (v := ?_) (a' := ?_) #[true, true, true, true, true, false, false, true, true, true, true, false, false, false, false] rfl rfl (any_of HT_.out (by kernel_rfl)) (fun _ _ _ h => h) (Or.inl ⟨by rfl, ?_⟩) ?_ ?_
                          rotate_left
                          · intro w'
                            go_simp
                            with_reducible rfl
                          rotate_left
                          · simp only [Act.put, List.setIfInBounds_toArray, List.set_cons_zero, List.set_cons_succ, i64_w, i32_w]
                            rfl
                          refine take_ (i := 5) (N := some 102) (v := ?_) (a' := ?_) #[true, true, true, true, true, true, false, true, true, true, true, false, false, false, false] rfl rfl (take_ofW HT_.out HW_.out (by kernel_rfl)) (fun _ _ _ h => h) (Or.inl ⟨by rfl, ?_⟩) hHeld ?_ ?_
                          rotate_left
                          · rintro w' ⟨s0, s1, s2, s3⟩
                            go_simp
                            with_reducible rfl
                          rotate_left
                          · simp only [Act.put, List.setIfInBounds_toArray, List.set_cons_zero, List.set_cons_succ, i64_w, i32_w]
                            rfl
                          refine pure_ (i := 6) (N := some 103) (v := ?_) (a' := ?_) #[true, true, true, true, true, true, true, true, true, true, true, false, false, false, false] rfl rfl (any_of HT_.out (by kernel_rfl)) (fun _ _ _ h => h) (Or.inl ⟨by rfl, ?_⟩) ?_ ?_
                          rotate_left
                          · intro w'
                            go_simp
                            with_reducible rfl
                          rotate_left
                          · simp only [Act.put, List.setIfInBounds_toArray, List.set_cons_zero, List.set_cons_succ, i64_w, i32_w]
                            rfl
                          refine take_ (i := 11) (N := some 108) (v := ?_) (a' := ?_) #[true, true, true, true, true, true, true, true, true, true, true, true, false, false, false] rfl rfl (take_ofW HT_.out HW_.out (by kernel_rfl)) (fun _ _ _ h => h) (Or.inl ⟨by rfl, ?_⟩) hHeld ?_ ?_
                          rotate_left
                          · rintro w' ⟨s0, s1, s2, s3⟩
                            go_simp
                            with_reducible rfl
                          rotate_left
                          · simp only [Act.put, List.setIfInBounds_toArray, List.set_cons_zero, List.set_cons_succ, i64_w, i32_w]
                            rfl
                          refine pure_ (i := 12) (N := some 109) (v := ?_) (a' := ?_) #[true, true, true, true, true, true, true, true, true, true, true, true, true, false, false] rfl rfl (any_of HT_.out (by kernel_rfl)) (fun _ _ _ h => h) (Or.inl ⟨by rfl, ?_⟩) ?_ ?_
                          rotate_left
                          · intro w'
                            go_simp
                            with_reducible rfl
                          rotate_left
                          · simp only [Act.put, List.setIfInBounds_toArray, List.set_cons_zero, List.set_cons_succ, i64_w, i32_w]
                            rfl
                          refine one_ (i := 13) (N := some 110) #[true, true, true, true, true, true, true, true, true, true, true, true, true, true, false] rfl rfl (one_of HT_.out (by kernel_rfl)) (by decide) (fun K hK => ?_)
                          refine print_append_str_step (w0 := w) w.heap.size (by rfl) (.tmp 97) _ 45 9 5 rfl Tryz.underlying45 Tryz.underlying9 info5 u10 x10_2 ((((rd_T35 l0 x11_2).f0) ++ (⟨#[58]⟩ : ByteArray)) ++ ((rd_T35 l0 x11_2).f1)) rfl rfl ?aO ?aB ?aS ?aL ?_
                          (case aB => exact (by repeat (first | (with_reducible first | exact HB.out | apply below_alloc | apply pw_below_drewN | apply below_drew1) | exact HB.out)))
                          (case aO => exact (Kd.own_of_R (by (with_reducible repeat (first | apply Kd.R_alloc | apply Kd.R_drewN | apply Kd.R_drew)); exact HO_10.out)))
                          (case aS => exact (below_size (by repeat (first | (with_reducible first | exact HB.out | apply below_alloc | apply pw_below_drewN | apply below_drew1) | exact HB.out))))
                          (case aL => have := LMc46.out; omega)
                          intro v295 w48 ho0 hb hg
                          have ho := Kd.R_of_own (h1 := fun _ => rfl) (ok := fun _ => True) ho0 (fun _ _ => trivial)
                          clear ho0
                          have hat := True.intro
                          rw [← Ny294.out] at ho
                          change Kd.R (Kd.int .u8) 5 w48 w.heap.size (fun _ => True) v295 y294 at ho
                          have n0_ := Aside0.mk (hb)
                          have n1_ := Aside0.mk (ho)
                          clear HB
                          clear HO_10
                          have HB := n0_
                          have HO296 := n1_
                          clear n0_ n1_
                          clear ho hb hg hat
                          refine hK.out _ _ ⟨((HB.out.cell (World.block_lt_of_cell? w _ hw292_0)).trans hw292_0), ((HB.out.cell (World.block_lt_of_cell? w _ hw292_1)).trans hw292_1), ((HB.out.cell (World.block_lt_of_cell? w _ hw293_0)).trans hw293_0), ((HB.out.cell (World.block_lt_of_cell? w _ hw293_1)).trans hw293_1)⟩ (fun hHeld => ?_)
                          clear hK K
                          refine norm_ (a' := ?_) ?_ ?_
                          rotate_left
                          · show Act.put _ (some 110) _ = _
                            simp only [Act.put, List.setIfInBounds_toArray, List.set_cons_zero, List.set_cons_succ, i64_w, i32_w]
                            rfl
                          refine pure_ (i := 14) (N := some 10) (v := ?_) (a' := ?_) #[true, true, true, true, true, true, true, true, true, true, true, true, true, true, true] rfl rfl (any_of HT_.out (by kernel_rfl)) (fun _ _ _ h => h) (Or.inl ⟨by rfl, ?_⟩) ?_ ?_
                          rotate_left
                          · intro w'
                            go_simp
                            with_reducible rfl
                          rotate_left
                          · simp only [Act.put, List.setIfInBounds_toArray, List.set_cons_zero, List.set_cons_succ, i64_w, i32_w]
                            rfl
                          refine done_ (done_of HT_.out (by kernel_rfl)) ?_
                          try go_wp2
                          go_roundg k2
                          case measure => have := HK1.out; have := HK2.out; omega
                          case rel => exact ⟨(y294), (wrap64 (x11_2 + 1)), (by first | rfl | (simp; done) | (simp [*]; done)), H', ⟨by have := HK1.out; have := HK2.out; omega⟩, ⟨by (with_reducible repeat (first | apply Kd.R_alloc | apply Kd.R_drewN | apply Kd.R_drew)); exact HO296.out⟩, ⟨by repeat (first | (with_reducible first | exact HB.out | apply below_alloc | apply pw_below_drewN | apply below_drew1) | exact HB.out)⟩⟩
                        · rw [if_neg c46] at H
                          exact absurd H (by simp)
                      · rw [if_neg c45] at H
                        exact absurd H (by simp)
                    · rw [if_neg c44] at H
                      exact absurd H (by simp)
                  · replace c43 := Bool.eq_false_iff.mpr c43
                    subst c43
                    have H1 : (missivelaw09_HeaderFolds.l3 k2 l0 t276 t278 x10_2 (wrap64 (x11_2 + 1))) = some r := by rw [if_neg (show ¬ (false = true) by decide)] at H; exact H
                    clear H
                    have H := H1
                    clear H1
                    have H' := Aside0.mk H
                    clear H
                    have p290 : 0 ≤ (x11_2 : Int) := of_decide_eq_true (by first | (with_reducible assumption) | assumption)
                    have q290 : x11_2 < (l0.length : Int) := of_decide_eq_true (by first | (with_reducible assumption) | assumption)
                    obtain ⟨ad290, e290, hx290_0, hx290_1⟩ := at_T35 HR0.out x11_2 p290 q290
                    cases e290
                    replace hx290_0 := (HB.out.cell (World.block_lt_of_cell? w _ hx290_0)).trans hx290_0
                    replace hx290_1 := (HB.out.cell (World.block_lt_of_cell? w _ hx290_1)).trans hx290_1
                    replace p290 := eq_true p290
                    replace q290 := eq_true q290
                    go_wp2_with (first | ((with_reducible refine gate_callee (f := 19) rfl ?_); refine goesL_ (some 96) rfl rfl Tryz.func19 (by kernel_rfl) rfl #[.string ((rd_T35 l0 x11_2).f0)] rfl (by (try simp only [List.map_toArray, List.map_cons, List.map_nil]); first | done | rfl | (simp only [List.length_drop, List.length_take]; rfl)) ?_; (with_reducible refine (missiveref09_Named.calls k2 ((rd_T35 l0 x11_2).f0) false _ A42.out).mono ?_); rintro e w' ⟨rfl, ⟨nd, rfl⟩⟩; refine ⟨_, rfl, ?_⟩))
                    go_roundg k2
                    case measure => have := HK1.out; have := HK2.out; omega
                    case rel => exact ⟨(x10_2), (wrap64 (x11_2 + 1)), (by first | rfl | (simp; done) | (simp [*]; done)), H', ⟨by have := HK1.out; have := HK2.out; omega⟩, ⟨by (with_reducible repeat (first | apply Kd.R_alloc | apply Kd.R_drewN | apply Kd.R_drew)); exact HO_10.out⟩, ⟨by repeat (first | (with_reducible first | exact HB.out | apply below_alloc | apply pw_below_drewN | apply below_drew1) | exact HB.out)⟩⟩
                · rw [if_neg c41] at H
                  exact absurd H (by simp)
              · rw [if_neg c40] at H
                have c40b0 : decide (x11_2 < (l0.length : Int)) = false := decide_eq_false c40
                clear c40
                by_cases c49 : t276 = true
                · subst c49
                  have H1 : ((missivelaw09_solid.f k2 t278).bind fun t297 => ((missivelaw09_solid.f k2 (strOfNums x10_2)).bind fun t298 => (some (t297.toList == t298.toList)))) = some r := by rw [if_pos rfl] at H; exact H
                  clear H
                  have H := H1
                  clear H1
                  replace H := Option.bind_eq_some_iff.mp H
                  obtain ⟨t297, A500, H⟩ := H
                  replace H : ((missivelaw09_solid.f k2 (strOfNums x10_2)).bind fun t298 => (some (t297.toList == t298.toList))) = some r := H
                  have A50 := Aside0.mk A500
                  clear A500
                  replace H := Option.bind_eq_some_iff.mp H
                  obtain ⟨t298, A510, H⟩ := H
                  replace H : (some (t297.toList == t298.toList)) = some r := H
                  have A51 := Aside0.mk A510
                  clear A510
                  obtain rfl := Option.some.inj H
                  try go_wp2
                  have n0_ := Aside0.mk (Kd.R_drew HO_10.out)
                  have n1_ := Aside0.mk (below_drew1 HB.out)
                  clear HO_10
                  clear HB
                  have HO_10 := n0_
                  have HB := n1_
                  clear n0_ n1_
                  refine start_ (n := 10) (S := fun w' => (convert 45 9 u10).run Tryz.prog w' = .ok (.string (strOfNums x10_2)) w') (ds := []) #[false, false, false, false, false, false, false, false, false, false] (by kernel_rfl) rfl rfl (own_string (P := Tryz.prog) Tryz.underlying45 Tryz.underlying5 Tryz.underlying9 (Kd.own_of_R HO_10.out)) (fun hHeld => ?_); refine with_tabW missivelaw09_HeaderFolds.tab28 missivelaw09_HeaderFolds.bits28 (fun HT_ HW_ => ?_)
                  generalize wr.drew = w52 at HO_10 HB hHeld ⊢
                  refine pure_ (i := 0) (N := some 111) (v := ?_) (a' := ?_) #[true, false, false, false, false, false, false, false, false, false] rfl rfl (any_of HT_.out (by kernel_rfl)) (fun _ _ _ h => h) (Or.inl ⟨by rfl, ?_⟩) ?_ ?_
                  rotate_left
                  · intro w'
                    go_simp
                    with_reducible rfl
                  rotate_left
                  · simp only [Act.put, List.setIfInBounds_toArray, List.set_cons_zero, List.set_cons_succ, i64_w, i32_w]
                    rfl
                  refine pure_ (i := 1) (N := some 112) (v := ?_) (a' := ?_) #[true, true, false, false, false, false, false, false, false, false] rfl rfl (any_of HT_.out (by kernel_rfl)) (fun _ _ _ h => h) (Or.inl ⟨by rfl, ?_⟩) ?_ ?_
                  rotate_left
                  · intro w'
                    go_simp
                    with_reducible rfl
                  rotate_left
                  · simp only [Act.put, List.setIfInBounds_toArray, List.set_cons_zero, List.set_cons_succ, i64_w, i32_w]
                    rfl
                  refine pure_ (i := 2) (N := some 113) (v := ?_) (a' := ?_) #[true, true, true, false, false, false, false, false, false, false] rfl rfl (any_of HT_.out (by kernel_rfl)) (fun _ _ _ h => h) (Or.inl ⟨by rfl, ?_⟩) ?_ ?_
                  rotate_left
                  · intro w'
                    go_simp
                    with_reducible rfl
                  rotate_left
                  · simp only [Act.put, List.setIfInBounds_toArray, List.set_cons_zero, List.set_cons_succ, i64_w, i32_w]
                    rfl
                  refine pure_ (i := 4) (N := some 115) (v := ?_) (a' := ?_) #[true, true, true, false, true, false, false, false, false, false] rfl rfl (any_of HT_.out (by kernel_rfl)) (fun _ _ _ h => h) (Or.inl ⟨by rfl, ?_⟩) ?_ ?_
                  rotate_left
                  · intro w'
                    go_simp
                    with_reducible rfl
                  rotate_left
                  · simp only [Act.put, List.setIfInBounds_toArray, List.set_cons_zero, List.set_cons_succ, i64_w, i32_w]
                    rfl
                  refine take_ (i := 5) (N := some 116) (v := ?_) (a' := ?_) #[true, true, true, false, true, true, false, false, false, false] rfl rfl (take_ofW HT_.out HW_.out (by kernel_rfl)) (fun _ _ _ h => h) (Or.inl ⟨by rfl, ?_⟩) hHeld ?_ ?_
                  rotate_left
                  · intro w' s0
                    go_simp
                    with_reducible rfl
                  rotate_left
                  · simp only [Act.put, List.setIfInBounds_toArray, List.set_cons_zero, List.set_cons_succ, i64_w, i32_w]
                    rfl
                  refine one_ (i := 3) (N := some 114) #[true, true, true, true, true, true, false, false, false, false] rfl rfl (one_of HT_.out (by kernel_rfl)) (by decide) (fun K hK => ?_)
                  refine goes_ Tryz.func27 (by kernel_rfl) rfl #[.string t278] (by rfl) rfl rfl (by (try simp only [List.map_toArray, List.map_cons, List.map_nil]); first | done | rfl | (simp only [List.length_drop, List.length_take]; rfl)) ?_
                  with_reducible refine (missivelaw09_solid.calls k2 t278 t297 _ A50.out).mono ?_
                  rintro e w53 ⟨rfl, hb⟩
                  refine ⟨_, rfl, ?_⟩
                  have n0_ := Aside0.mk (Kd.R_below (by (with_reducible repeat (first | apply Kd.R_alloc | apply Kd.R_drewN | apply Kd.R_drew)); exact HO_10.out) hb)
                  have n1_ := Aside0.mk (below_step (by repeat (first | (with_reducible first | exact HB.out | apply below_alloc | apply pw_below_drewN | apply below_drew1) | exact HB.out)) hb)
                  clear HO_10
                  clear HB
                  have HO_10 := n0_
                  have HB := n1_
                  clear n0_ n1_
                  (try clear hb)
                  (try clear hb2)
                  (try clear hk)
                  (try clear hi)
                  refine hK.out _ _ (own_string (P := Tryz.prog) Tryz.underlying45 Tryz.underlying5 Tryz.underlying9 (Kd.own_of_R HO_10.out)) (fun hHeld => ?_)
                  clear hK K
                  refine norm_ (a' := ?_) ?_ ?_
                  rotate_left
                  · show Act.put _ (some 114) _ = _
                    simp only [Act.put, List.setIfInBounds_toArray, List.set_cons_zero, List.set_cons_succ, i64_w, i32_w]
                    rfl
                  refine one_ (i := 6) (N := some 117) #[true, true, true, true, true, true, true, false, false, false] rfl rfl (one_of HT_.out (by kernel_rfl)) (by decide) (fun K hK => ?_)
                  refine goes_ Tryz.func27 (by kernel_rfl) rfl #[.string (strOfNums x10_2)] (by rfl) rfl rfl (by (try simp only [List.map_toArray, List.map_cons, List.map_nil]); first | done | rfl | (simp only [List.length_drop, List.length_take]; rfl)) ?_
                  with_reducible refine (missivelaw09_solid.calls k2 (strOfNums x10_2) t298 _ A51.out).mono ?_
                  rintro e w56 ⟨rfl, hb⟩
                  refine ⟨_, rfl, ?_⟩
                  have n0_ := Aside0.mk (Kd.R_below (by (with_reducible repeat (first | apply Kd.R_alloc | apply Kd.R_drewN | apply Kd.R_drew)); exact HO_10.out) hb)
                  have n1_ := Aside0.mk (below_step (by repeat (first | (with_reducible first | exact HB.out | apply below_alloc | apply pw_below_drewN | apply below_drew1) | exact HB.out)) hb)
                  clear HO_10
                  clear HB
                  have HO_10 := n0_
                  have HB := n1_
                  clear n0_ n1_
                  (try clear hb)
                  (try clear hb2)
                  (try clear hk)
                  (try clear hi)
                  refine hK.out _ _ (own_string (P := Tryz.prog) Tryz.underlying45 Tryz.underlying5 Tryz.underlying9 (Kd.own_of_R HO_10.out)) (fun hHeld => ?_)
                  clear hK K
                  refine norm_ (a' := ?_) ?_ ?_
                  rotate_left
                  · show Act.put _ (some 117) _ = _
                    simp only [Act.put, List.setIfInBounds_toArray, List.set_cons_zero, List.set_cons_succ, i64_w, i32_w]
                    rfl
                  refine pure_ (i := 7) (N := some 118) (v := ?_) (a' := ?_) #[true, true, true, true, true, true, true, true, false, false] rfl rfl (any_of HT_.out (by kernel_rfl)) (fun _ _ _ h => h) (Or.inl ⟨by rfl, ?_⟩) ?_ ?_
                  rotate_left
                  · intro w'
                    go_simp
                    with_reducible rfl
                  rotate_left
                  · simp only [Act.put, List.setIfInBounds_toArray, List.set_cons_zero, List.set_cons_succ, i64_w, i32_w]
                    rfl
                  refine pure_ (i := 8) (N := some 119) (v := ?_) (a' := ?_) #[true, true, true, true, true, true, true, true, true, false] rfl rfl (any_of HT_.out (by kernel_rfl)) (fun _ _ _ h => h) (Or.inl ⟨by rfl, ?_⟩) ?_ ?_
                  rotate_left
                  · intro w'
                    go_simp
                    with_reducible rfl
                  rotate_left
                  · simp only [Act.put, List.setIfInBounds_toArray, List.set_cons_zero, List.set_cons_succ, i64_w, i32_w]
                    rfl
                  refine pure_ (i := 9) (N := some 2) (v := ?_) (a' := ?_) #[true, true, true, true, true, true, true, true, true, true] rfl rfl (any_of HT_.out (by kernel_rfl)) (fun _ _ _ h => h) (Or.inl ⟨by rfl, ?_⟩) ?_ ?_
                  rotate_left
                  · intro w'
                    go_simp
                    with_reducible rfl
                  rotate_left
                  · simp only [Act.put, List.setIfInBounds_toArray, List.set_cons_zero, List.set_cons_succ, i64_w, i32_w]
                    rfl
                  refine done_ (done_of HT_.out (by kernel_rfl)) ?_
                  try go_wp2
                  go_ret
                  exact ⟨by first | rfl | (simp [errW_none, errW_some]; done) | (simp [errW_none, errW_some]; exact isEmpty_nbne _) | (simp [errW_none, errW_some]; exact isEmpty_bne _) | (simp [errW_none, errW_some] <;> rfl) | (simp [*, errW_none, errW_some] <;> rfl), by repeat (first | (with_reducible first | exact HB.out | apply below_alloc | apply pw_below_drewN | apply below_drew1) | exact HB.out)⟩
                · replace c49 := Bool.eq_false_iff.mpr c49
                  subst c49
                  have H1 : (some false) = some r := by rw [if_neg (show ¬ (false = true) by decide)] at H; exact H
                  clear H
                  have H := H1
                  clear H1
                  obtain rfl := Option.some.inj H
                  try go_wp2
                  have n0_ := Aside0.mk (Kd.R_drew HO_10.out)
                  have n1_ := Aside0.mk (below_drew1 HB.out)
                  clear HO_10
                  clear HB
                  have HO_10 := n0_
                  have HB := n1_
                  clear n0_ n1_
                  refine start_ (n := 10) (S := fun w' => True) (ds := []) #[false, false, false, false, false, false, false, false, false, false] (by kernel_rfl) rfl rfl trivial (fun hHeld => ?_); refine with_tabW missivelaw09_HeaderFolds.tab28 missivelaw09_HeaderFolds.bits28 (fun HT_ HW_ => ?_)
                  generalize wr.drew = w57 at HO_10 HB hHeld ⊢
                  refine pure_ (i := 0) (N := some 111) (v := ?_) (a' := ?_) #[true, false, false, false, false, false, false, false, false, false] rfl rfl (any_of HT_.out (by kernel_rfl)) (fun _ _ _ h => h) (Or.inl ⟨by rfl, ?_⟩) ?_ ?_
                  rotate_left
                  · intro w'
                    go_simp
                    with_reducible rfl
                  rotate_left
                  · simp only [Act.put, List.setIfInBounds_toArray, List.set_cons_zero, List.set_cons_succ, i64_w, i32_w]
                    rfl
                  refine pure_ (i := 1) (N := some 112) (v := ?_) (a' := ?_) #[true, true, false, false, false, false, false, false, false, false] rfl rfl (any_of HT_.out (by kernel_rfl)) (fun _ _ _ h => h) (Or.inl ⟨by rfl, ?_⟩) ?_ ?_
                  rotate_left
                  · intro w'
                    go_simp
                    with_reducible rfl
                  rotate_left
                  · simp only [Act.put, List.setIfInBounds_toArray, List.set_cons_zero, List.set_cons_succ, i64_w, i32_w]
                    rfl
                  refine pure_ (i := 2) (N := some 113) (v := undef) (a' := ?_) #[true, true, true, false, false, false, false, false, false, false] rfl rfl (any_of HT_.out (by kernel_rfl)) (fun _ _ _ h => h) (Or.inr ⟨by rfl, rfl⟩) ?_ ?_
                  rotate_left
                  · simp only [Act.put, List.setIfInBounds_toArray, List.set_cons_zero, List.set_cons_succ, i64_w, i32_w]
                    rfl
                  refine pure_ (i := 3) (N := some 114) (v := undef) (a' := ?_) #[true, true, true, true, false, false, false, false, false, false] rfl rfl (any_of HT_.out (by kernel_rfl)) (fun _ _ _ h => h) (Or.inr ⟨by rfl, rfl⟩) ?_ ?_
                  rotate_left
                  · simp only [Act.put, List.setIfInBounds_toArray, List.set_cons_zero, List.set_cons_succ, i64_w, i32_w]
                    rfl
                  refine pure_ (i := 4) (N := some 115) (v := undef) (a' := ?_) #[true, true, true, true, true, false, false, false, false, false] rfl rfl (any_of HT_.out (by kernel_rfl)) (fun _ _ _ h => h) (Or.inr ⟨by rfl, rfl⟩) ?_ ?_
                  rotate_left
                  · simp only [Act.put, List.setIfInBounds_toArray, List.set_cons_zero, List.set_cons_succ, i64_w, i32_w]
                    rfl
                  refine pure_ (i := 5) (N := some 116) (v := undef) (a' := ?_) #[true, true, true, true, true, true, false, false, false, false] rfl rfl (any_of HT_.out (by kernel_rfl)) (fun _ _ _ h => h) (Or.inr ⟨by rfl, rfl⟩) ?_ ?_
                  rotate_left
                  · simp only [Act.put, List.setIfInBounds_toArray, List.set_cons_zero, List.set_cons_succ, i64_w, i32_w]
                    rfl
                  refine pure_ (i := 6) (N := some 117) (v := undef) (a' := ?_) #[true, true, true, true, true, true, true, false, false, false] rfl rfl (any_of HT_.out (by kernel_rfl)) (fun _ _ _ h => h) (Or.inr ⟨by rfl, rfl⟩) ?_ ?_
                  rotate_left
                  · simp only [Act.put, List.setIfInBounds_toArray, List.set_cons_zero, List.set_cons_succ, i64_w, i32_w]
                    rfl
                  refine pure_ (i := 7) (N := some 118) (v := undef) (a' := ?_) #[true, true, true, true, true, true, true, true, false, false] rfl rfl (any_of HT_.out (by kernel_rfl)) (fun _ _ _ h => h) (Or.inr ⟨by rfl, rfl⟩) ?_ ?_
                  rotate_left
                  · simp only [Act.put, List.setIfInBounds_toArray, List.set_cons_zero, List.set_cons_succ, i64_w, i32_w]
                    rfl
                  refine pure_ (i := 8) (N := some 119) (v := ?_) (a' := ?_) #[true, true, true, true, true, true, true, true, true, false] rfl rfl (any_of HT_.out (by kernel_rfl)) (fun _ _ _ h => h) (Or.inl ⟨by rfl, ?_⟩) ?_ ?_
                  rotate_left
                  · intro w'
                    go_simp
                    with_reducible rfl
                  rotate_left
                  · simp only [Act.put, List.setIfInBounds_toArray, List.set_cons_zero, List.set_cons_succ, i64_w, i32_w]
                    rfl
                  refine pure_ (i := 9) (N := some 2) (v := ?_) (a' := ?_) #[true, true, true, true, true, true, true, true, true, true] rfl rfl (any_of HT_.out (by kernel_rfl)) (fun _ _ _ h => h) (Or.inl ⟨by rfl, ?_⟩) ?_ ?_
                  rotate_left
                  · intro w'
                    go_simp
                    with_reducible rfl
                  rotate_left
                  · simp only [Act.put, List.setIfInBounds_toArray, List.set_cons_zero, List.set_cons_succ, i64_w, i32_w]
                    rfl
                  refine done_ (done_of HT_.out (by kernel_rfl)) ?_
                  try go_wp2
                  go_ret
                  exact ⟨by first | rfl | (simp [errW_none, errW_some]; done) | (simp [errW_none, errW_some]; exact isEmpty_nbne _) | (simp [errW_none, errW_some]; exact isEmpty_bne _) | (simp [errW_none, errW_some] <;> rfl) | (simp [*, errW_none, errW_some] <;> rfl), by repeat (first | (with_reducible first | exact HB.out | apply below_alloc | apply pw_below_drewN | apply below_drew1) | exact HB.out)⟩
  · replace c4 := Bool.eq_false_iff.mpr c4
    subst c4
    have H1 : (some t276) = some r := by rw [if_neg (show ¬ (false = true) by decide)] at H; exact H
    clear H
    have H := H1
    clear H1
    obtain rfl := Option.some.inj H
    go_enter Tryz.func7, Tryz.ntmps7
    go_wp2_with (first | ((with_reducible refine gate_callee (f := 10) rfl ?_); refine goesL_ (some 12) rfl rfl Tryz.func10 (by kernel_rfl) rfl #[] rfl (by (try simp only [List.map_toArray, List.map_cons, List.map_nil]); first | done | rfl | (simp only [List.length_drop, List.length_take]; rfl)) ?_; (with_reducible refine (missivelaw09_small.calls k  t276 _ A2.out).mono ?_); rintro e w58 ⟨rfl, hb⟩; refine ⟨_, rfl, ?_⟩; have n0_ := Aside0.mk (below_step (by repeat (first | (with_reducible first | exact HB.out | apply below_alloc | apply pw_below_drewN | apply below_drew1) | exact HB.out)) hb); clear HB; have HB := n0_; clear n0_; (try clear hb); (try clear hb2); (try clear hk); (try clear hi)) | ((with_reducible refine gate_callee (f := 18) rfl ?_); refine goesL_ (some 14) rfl rfl Tryz.func18 (by kernel_rfl) rfl #[.slice A0 l0.length c0] rfl (by (try simp only [List.map_toArray, List.map_cons, List.map_nil]); first | done | rfl | (simp only [List.length_drop, List.length_take]; rfl)) ?_; (with_reducible refine (missivelaw09_few.calls k _ _ l0 false _ ?side1 ?side2 A3.out).mono ?_); (case side1 => repeat (first | exact (Kd.C_below HR0.out HB.out) | (with_reducible refine Kd.C_alloc ?_ _) | (with_reducible refine Kd.C_drewN ?_ _) | (with_reducible refine Kd.C_drew ?_))); (case side2 => exact HC0.out); rintro e w' ⟨rfl, ⟨nd, rfl⟩⟩; refine ⟨_, rfl, ?_⟩))
    go_ret
    exact ⟨by first | rfl | (simp [errW_none, errW_some]; done) | (simp [errW_none, errW_some]; exact isEmpty_nbne _) | (simp [errW_none, errW_some]; exact isEmpty_bne _) | (simp [errW_none, errW_some] <;> rfl) | (simp [*, errW_none, errW_some] <;> rfl), by repeat (first | (with_reducible first | exact HB.out | apply below_alloc | apply pw_below_drewN | apply below_drew1) | exact HB.out)⟩
end Go.Proofs.YtieompfmhnpnaaaGreat.H
end
section
namespace Go.Proofs.YtieompfmhnpnaaaGreat.H
open Go.RowKit Go.Proofs.YtieompfmhnpnaaaGreatW.PrintWords Go.Proofs.YtieompfmhnpnaaaGreatW.PrintLast Go.Proofs.YtieompfmhnpnaaaGreatW.PrintMore
set_option linter.unusedVariables false
set_option linter.unusedSimpArgs false
theorem nbyte {c n : UInt8} (h : ¬ c = n) : ¬ ((c.toNat : Int) = (n.toNat : Int)) := fun e => h (by rw [← UInt8.toNat_inj]; omega)
theorem rdBF (l : List ByteArray) (i : Nat) (h : i < l.length) : rdOf ByteArray.empty l (i : Int) = l[i] := by simp [rdOf, List.getD, h]
theorem byteAt_pre (s : ByteArray) (j i : Nat) (h : i < j) (hj : j ≤ s.size) : byteAt (s.extract 0 j) i = byteAt s i := by
  have h1 := byteAt_list (s.extract 0 j) i (by simp; omega)
  have h2 := byteAt_list s i (by omega)
  rw [bl_extract, List.drop_zero, List.getElem?_take, if_pos h, h2] at h1
  exact (Option.some.inj h1).symm
theorem foldB_pre (s : ByteArray) (j k : Nat) (hj : j ≤ s.size) (h : foldB s k = false) : foldB (s.extract 0 j) k = false := by
  have hz : (s.extract 0 j).size = j := by simp; omega
  apply Bool.eq_false_iff.2
  intro h2
  apply Bool.eq_false_iff.1 h
  unfold foldB at h2 ⊢
  rw [hz] at h2
  simp only [Bool.and_eq_true, decide_eq_true_eq] at h2 ⊢
  refine ⟨⟨h2.1.1, by omega⟩, ?_⟩
  have h3 := h2.2
  unfold isFoldB at h3 ⊢
  rw [byteAt_pre s j k (by omega) hj, byteAt_pre s j (k - 1) (by omega) hj, byteAt_pre s j (k + 1) (by omega) hj] at h3
  exact h3
theorem downTo_none' (p : Nat → Bool) (lo : Nat) : ∀ n, downTo p lo n = 0 → ∀ i, lo < i → i ≤ n → p i = false
  | 0, _, i, h1, h2 => by omega
  | n + 1, h, i, h1, h2 => by
    by_cases hl : n + 1 ≤ lo
    · omega
    · cases hp : p (n + 1) with
      | true => rw [downTo_yes p lo (n + 1) (by omega) hp] at h; omega
      | false =>
        rw [downTo_no p lo (n + 1) (by omega) hp] at h
        by_cases he : i = n + 1
        · rw [he]; exact hp
        · exact downTo_none' p lo n h i h1 (by omega)
theorem downTo_le2 (p : Nat → Bool) (lo n : Nat) : downTo p lo n ≤ n := downTo_le p lo n
def OkL (b : Nat) (L : List UInt8) : Prop := L.length ≤ 998 ∧ L ≠ [] ∧ (78 < L.length → ∀ k, b < k → k ≤ 78 → foldB (mkB L) k = false)
theorem okL_pre (s : ByteArray) (b j : Nat) (hj : j ≤ s.size) (h0 : 0 < j) (h998 : j ≤ 998) (h78 : 78 < s.size) (hd : 78 < j → downTo (foldB s) b 78 = 0) : OkL b (bl (s.extract 0 j)) := by
  have hz : (bl (s.extract 0 j)).length = j := by rw [bl_length]; simp; omega
  refine ⟨by omega, fun e => by rw [e] at hz; simp at hz; omega, fun h k h1 h2 => ?_⟩
  rw [mkB_bl]
  exact foldB_pre s j k hj (downTo_none' _ _ _ (hd (by omega)) k h1 h2)
theorem okL_whole (s : ByteArray) (b : Nat) (h0 : 0 < s.size) (h : s.size ≤ 78 ∨ (s.size ≤ 998 ∧ downTo (foldB s) b 78 = 0)) : OkL b (bl s) := by
  have hz := bl_length s
  refine ⟨by omega, fun e => by rw [e] at hz; simp at hz; omega, fun h7 k h1 h2 => ?_⟩
  rw [mkB_bl]
  rcases h with h | h
  · omega
  · exact downTo_none' _ _ _ h.2 k h1 h2
theorem foldLs_good : ∀ (f : Nat) (s : ByteArray) (b : Nat), s.size ≤ f → 0 < s.size → ∃ L0 rest, foldLs f s b = L0 :: rest ∧ OkL b L0 ∧ ∀ c ∈ rest, OkL 0 c
  | 0, s, b, hf, h0 => by omega
  | f + 1, s, b, hf, h0 => by
    unfold foldLs
    by_cases h78 : s.size ≤ 78
    · rw [if_pos h78]
      exact ⟨bl s, [], rfl, okL_whole s b h0 (.inl h78), fun c hc => by cases hc⟩
    · rw [if_neg h78]
      have hF := foldAt_foldB s b (by omega)
      by_cases hi : 0 < foldAtS s b
      · rw [if_pos hi]
        obtain ⟨g1, g2, g3, g4⟩ := foldAt_spec s b hi
        obtain ⟨L1, r1, e1, o1, o2⟩ := foldLs_good f (s.extract (foldAtS s b) s.size) 0 (by simp; omega) (by simp; omega)
        refine ⟨_, _, rfl, okL_pre s b _ (by omega) hi g2 (by omega) (fun h7 => ?_), ?_⟩
        · by_cases hd : downTo (foldB s) b 78 = 0
          · exact hd
          · rw [if_neg hd] at hF
            have := downTo_le2 (foldB s) b 78
            omega
        · intro c hc
          rw [e1] at hc
          rcases List.mem_cons.1 hc with rfl | hc
          · exact o1
          · exact o2 c hc
      · rw [if_neg hi]
        have hd : downTo (foldB s) b 78 = 0 := by
          by_cases hd : downTo (foldB s) b 78 = 0
          · exact hd
          · rw [if_neg hd] at hF
            omega
        by_cases h998 : s.size ≤ 998
        · rw [if_pos h998]
          exact ⟨bl s, [], rfl, okL_whole s b h0 (.inr ⟨h998, hd⟩), fun c hc => by cases hc⟩
        · rw [if_neg h998]
          have hz : ((⟨#[32]⟩ : ByteArray) ++ s.extract 998 s.size).size = 1 + (s.size - 998) := by rw [ByteArray.size_append]; simp; rfl
          obtain ⟨L1, r1, e1, o1, o2⟩ := foldLs_good f (⟨#[32]⟩ ++ s.extract 998 s.size) 0 (by omega) (by omega)
          refine ⟨_, _, rfl, okL_pre s b 998 (by omega) (by omega) (by omega) (by omega) (fun _ => hd), ?_⟩
          intro c hc
          rw [e1] at hc
          rcases List.mem_cons.1 hc with rfl | hc
          · exact o1
          · exact o2 c hc
def GoodLn (L : List UInt8) : Prop := L.length ≤ 998 ∧ L ≠ [] ∧
  (((∃ r, L = 32 :: r) ∧ OkL 0 L) ∨ ∃ nm v, L = nm ++ 58 :: v ∧ nm ≠ [] ∧ nm.length ≤ 200 ∧ (∀ c ∈ nm, c ≠ 32 ∧ c ≠ 58) ∧ OkL (nm.length + 1) L)
theorem fieldLs_good (f : S35) (h : isNameB f.f0 = true) : ∀ L ∈ fieldLs f, GoodLn L := by
  obtain ⟨⟨v0, conts, e1, e2, e3⟩, hLF, hCR⟩ := fieldLs_ok f h
  obtain ⟨w, hw⟩ := line_head f
  have hlen : (lineS f).size = f.f0.size + 1 + w.length := by rw [← bl_length, hw]; simp; omega
  obtain ⟨L0, rest, g1, g2, g3⟩ := foldLs_good (lineS f).size (lineS f) (f.f0.size + 1) (Nat.le_refl _) (by omega)
  have g1' : fieldLs f = L0 :: rest := g1
  rw [e1] at g1'
  obtain ⟨rfl, rfl⟩ := List.cons.inj g1'
  have hv := name_vis h
  have hsz : 1 ≤ f.f0.size ∧ f.f0.size ≤ 200 := by
    unfold isNameB at h
    simp only [Bool.and_eq_true, decide_eq_true_eq] at h
    exact h.1
  intro L hL
  rw [e1] at hL
  rcases List.mem_cons.1 hL with rfl | hL
  · refine ⟨g2.1, g2.2.1, .inr ⟨bl f.f0, v0, rfl, ?_, ?_, ?_, ?_⟩⟩
    · intro e
      have := bl_length f.f0
      rw [e] at this
      simp at this
      omega
    · rw [bl_length]; exact hsz.2
    · intro c hc
      exact ⟨vis_no (hv c hc).1 (.inr (.inr rfl)), (hv c hc).2⟩
    · rw [bl_length]; exact g2
  · exact ⟨(g3 L hL).1, (g3 L hL).2.1, .inl ⟨e3 L hL, g3 L hL⟩⟩
theorem lines_l0 (ls : List (List UInt8)) (h10 : ∀ l ∈ ls, (10 : UInt8) ∉ l) (h13 : ∀ l ∈ ls, (13 : UInt8) ∉ l) : ∀ (acc : List ByteArray), (catL ls).length ≤ 1099511627776 → acc.length + ls.length ≤ 1099511627776 →
    Ev (fun k => text_Lines.l0 k (mkB (catL ls)) acc) (acc ++ ls.map mkB) := by
  induction ls with
  | nil =>
    intro acc _ _
    refine Ev.step (fun k => by simp only [text_Lines.l0]; rfl) ?_
    refine ev_yes (by rw [toList_bl]; rfl) (ev_done (by simp))
  | cons l ls ih =>
    intro acc hz ha
    have e : catL (l :: ls) = l ++ 10 :: catL ls := by simp [catL]
    have hz' : l.length + 1 + (catL ls).length ≤ 1099511627776 := by rw [e] at hz; simp at hz; omega
    have hc := cutAt_cut (s := mkB (catL (l :: ls))) (l := l) (r := catL ls) (c := 10) (by rw [bl_mkB, e]) (h10 l (by simp))
    have hC : strings_Cut.f (mkB (catL (l :: ls))) (⟨#[10]⟩ : ByteArray) = some (mkB l, mkB (catL ls), true) := by
      unfold strings_Cut.f
      rw [if_pos ⟨by rw [mkB_size]; omega, rfl⟩]
      exact congrArg some hc
    have hT : strings_TrimSuffix.f (mkB l) (⟨#[13]⟩ : ByteArray) = some (mkB l) := by
      rw [trimCR_f (mkB l) (by rw [mkB_size]; omega), trimCR_no (h13 l (by simp))]
    refine Ev.step (fun k => by simp only [text_Lines.l0]; rfl) ?_
    simp only [hC, hT, Option.bind_some]
    refine ev_no (by rw [toList_bl, bl_mkB, e]; simp) (ev_yes (by trivial) (ev_yes (by simp at ha; omega) ?_))
    have := ih (fun m hm => h10 m (by simp [hm])) (fun m hm => h13 m (by simp [hm])) (acc ++ [mkB l]) (by omega) (by simp at ha ⊢; omega)
    rw [List.append_assoc] at this
    exact this
def nwB (c : UInt8) : Bool := !wsB c
theorem solid_l0 (s : ByteArray) (hs : s.size ≤ 1099511627776) : ∀ (n i : Nat) (acc : List UInt8), i + n = s.size → acc.length ≤ i →
    Ev (fun k => missivelaw09_solid.l0 k s (ints acc) (i : Int)) (mkB (acc ++ ((bl s).drop i).filter nwB))
  | 0, i, acc, hi, ha => by
    have hl := bl_length s
    refine Ev.step (fun k => by simp only [missivelaw09_solid.l0]; rfl) ?_
    refine ev_no (by omega) (ev_done ?_)
    rw [List.drop_of_length_le (by omega), ints_back]
    simp
  | n + 1, i, acc, hi, ha => by
    refine Ev.step (fun k => by simp only [missivelaw09_solid.l0]; rfl) ?_
    rw [bt_byteAt s i (by omega), wrap_up i (by omega), drop_byteAt s i (by omega)]
    refine ev_yes (by omega) (ev_yes (by omega) ?_)
    have skip : wsB (byteAt s i) = true → Ev (fun k => missivelaw09_solid.l0 k s (ints acc) ((i + 1 : Nat) : Int)) (mkB (acc ++ (byteAt s i :: (bl s).drop (i + 1)).filter nwB)) := fun h => by
      rw [List.filter_cons_of_neg (by unfold nwB; rw [h]; decide)]
      exact solid_l0 s hs n (i + 1) acc (by omega) (by omega)
    by_cases h1 : byteAt s i = 32
    · exact ev_yes (by rw [h1]; rfl) (skip (by rw [h1]; rfl))
    · refine ev_no (nbyte h1) ?_
      by_cases h2 : byteAt s i = 9
      · exact ev_yes (by rw [h2]; rfl) (skip (by rw [h2]; rfl))
      · refine ev_no (nbyte h2) ?_
        by_cases h3 : byteAt s i = 13
        · exact ev_yes (by rw [h3]; rfl) (skip (by rw [h3]; rfl))
        · refine ev_no (nbyte h3) ?_
          by_cases h4 : byteAt s i = 10
          · exact ev_yes (by rw [h4]; rfl) (skip (by rw [h4]; rfl))
          · refine ev_no (nbyte h4) (ev_yes (by rw [ints_length]; omega) ?_)
            have hw : wsB (byteAt s i) = false := by
              unfold wsB
              simp [h1, h2, h3, h4]
            rw [List.filter_cons_of_pos (by unfold nwB; rw [hw]; rfl)]
            have := solid_l0 s hs n (i + 1) (acc ++ [byteAt s i]) (by omega) (by simp; omega)
            rw [ints_append, List.append_assoc] at this
            exact this
theorem solid_ev (s : ByteArray) (hs : s.size ≤ 1099511627776) : Ev (fun k => missivelaw09_solid.f k s) (mkB ((bl s).filter nwB)) := by
  have := solid_l0 s hs s.size 0 [] (by omega) (by simp)
  exact this
theorem nw_dropWhile (l : List UInt8) : (l.dropWhile wsB).filter nwB = l.filter nwB := by
  induction l with
  | nil => rfl
  | cons c l ih =>
    by_cases h : wsB c = true
    · rw [List.dropWhile_cons_of_pos h, ih, List.filter_cons_of_neg (by unfold nwB; rw [h]; decide)]
    · rw [List.dropWhile_cons_of_neg h]
theorem nw_trim (l : List UInt8) : (trimL l).filter nwB = l.filter nwB := by
  unfold trimL rtrim
  rw [List.filter_reverse, nw_dropWhile, ← List.filter_reverse, List.reverse_reverse, nw_dropWhile]
theorem nw_crlf (l : List UInt8) : (l.map crlfB).filter nwB = l.filter nwB := by
  induction l with
  | nil => rfl
  | cons c l ih =>
    rw [List.map_cons]
    by_cases h : c = 13 ∨ c = 10
    · have e : crlfB c = 32 := by unfold crlfB; rw [if_pos h]
      rw [e, List.filter_cons_of_neg (by decide), ih]
      rcases h with rfl | rfl <;> rw [List.filter_cons_of_neg (by decide)]
    · have e : crlfB c = c := by unfold crlfB; rw [if_neg h]
      rw [e, List.filter_cons, List.filter_cons, ih]
theorem nw_foldL : ∀ (f : Nat) (s : ByteArray) (b : Nat), (foldL f s b).filter nwB = (bl s).filter nwB
  | 0, s, b => by unfold foldL; rw [List.filter_append]; simp [nwB, wsB]
  | f + 1, s, b => by
    have hs : ∀ j, bl s = bl (s.extract 0 j) ++ bl (s.extract j s.size) := fun j => by
      rw [bl_extract, bl_extract, List.drop_zero, List.take_of_length_le (l := bl s) (i := s.size) (by rw [bl_length]; exact Nat.le_refl _), List.take_append_drop]
    have h10 : [(10 : UInt8)].filter nwB = [] := by decide
    have h32 : (bl (⟨#[32]⟩ : ByteArray)).filter nwB = [] := by decide
    unfold foldL
    split
    · rw [List.filter_append, h10, List.append_nil]
    · split
      · rw [List.filter_append, List.filter_append, h10, List.append_nil, nw_foldL f, ← List.filter_append, ← hs]
      · split
        · rw [List.filter_append, h10, List.append_nil]
        · rw [List.filter_append, List.filter_append, h10, List.append_nil, nw_foldL f, bl_append, List.filter_append, h32, List.nil_append, ← List.filter_append, ← hs]
theorem nw_line (f : S35) : (bl (lineS f)).filter nwB = (bl f.f0 ++ 58 :: bl f.f1).filter nwB := by
  have ht : (bl (trimS (crlfS f.f1))).filter nwB = (bl f.f1).filter nwB := by
    unfold trimS
    rw [bl_mkB, nw_trim, bl_crlf, nw_crlf]
  have h32 : (bl (⟨#[32]⟩ : ByteArray)).filter nwB = [] := by decide
  have h58 : (bl (⟨#[58]⟩ : ByteArray)) = [58] := rfl
  have e : bl f.f0 ++ 58 :: bl f.f1 = (bl f.f0 ++ [58]) ++ bl f.f1 := by simp
  rw [e, List.filter_append, ← ht]
  unfold lineS
  split
  · rename_i h0
    have e0 : bl (trimS (crlfS f.f1)) = [] := by rw [← List.length_eq_zero_iff, bl_length]; exact h0
    rw [e0, bl_append, h58]
    simp
  · rw [bl_append, bl_append, bl_append, List.filter_append, List.filter_append, List.filter_append, h32, h58, List.nil_append]
def wantL (f : S35) : List UInt8 := if isNameB f.f0 then bl f.f0 ++ 58 :: bl f.f1 else []
theorem nw_write (l : List S35) : (writeL l).filter nwB = (l.flatMap wantL).filter nwB := by
  induction l with
  | nil => rfl
  | cons f l ih =>
    have e : writeL (f :: l) = fieldL f ++ writeL l := rfl
    rw [e, List.filter_append, ih, List.flatMap_cons, List.filter_append]
    congr 1
    unfold fieldL wantL
    by_cases h : isNameB f.f0 = true
    · rw [if_pos h, if_pos h, nw_foldL, nw_line]
    · rw [if_neg h, if_neg h]
section
variable (l : List S35) (s : ByteArray) (ls : List ByteArray) (hls : ls.length ≤ 1099511627776)
include hls
theorem folds_l2 (i : Nat) (hi : i < ls.length) (hz : ls[i].size ≤ 998) (r : Bool) (hr : Ev (fun k => missivelaw09_HeaderFolds.l0 k l true s ls ((i + 1 : Nat) : Int)) r) : ∀ (n fr : Nat), 79 ≤ fr + n → 1 ≤ fr → fr ≤ 1000 →
    (78 < ls[i].size → ∀ k, fr ≤ k → k ≤ 78 → foldB ls[i] k = false) → Ev (fun k => missivelaw09_HeaderFolds.l2 k l true s ls (i : Int) (fr : Int)) r
  | 0, fr, hn, h1, h2, hf => by
    refine Ev.step (fun k => by simp only [missivelaw09_HeaderFolds.l2]; rfl) ?_
    refine ev_no (by omega) ?_
    refine Ev.step (fun k => by simp only [missivelaw09_HeaderFolds.j6]; rfl) ?_
    rw [wrap_up i (by omega)]
    exact ev_no (by decide) hr
  | n + 1, fr, hn, h1, h2, hf => by
    refine Ev.step (fun k => by simp only [missivelaw09_HeaderFolds.l2]; rfl) ?_
    rw [rdBF ls i hi]
    by_cases h78 : fr ≤ 78
    · refine ev_yes (by omega) (ev_yes (by omega) (ev_yes (by omega) ?_))
      refine Ev.step (fun k => by simp only [missivelaw09_HeaderFolds.j6]; rfl) ?_
      rw [wrap_up i (by omega), wrap_up fr (by omega), rdBF ls i hi]
      by_cases hsz : 78 < ls[i].size
      · refine ev_yes (by simp; omega) (ev_yes (by omega) (ev_yes (by omega) ?_))
        rw [fold_any ls[i] fr (by omega) (by omega) h1, hf hsz fr (Nat.le_refl _) h78]
        simp only [Option.bind_some]
        refine ev_no (by decide) ?_
        exact folds_l2 i hi hz r hr n (fr + 1) (by omega) (by omega) (by omega) (fun h k h3 h4 => hf h k (by omega) h4)
      · exact ev_no (by simp; omega) hr
    · refine ev_no (by omega) ?_
      refine Ev.step (fun k => by simp only [missivelaw09_HeaderFolds.j6]; rfl) ?_
      rw [wrap_up i (by omega)]
      exact ev_no (by decide) hr
theorem folds_name (i : Nat) (hi : i < ls.length) (hz : ls[i].size ≤ 998) (r : Bool) (hr : Ev (fun k => missivelaw09_HeaderFolds.l0 k l true s ls ((i + 1 : Nat) : Int)) r) (c : Nat) (hc : c + 1 ≤ ls[i].size) (hc2 : c ≤ 200) (h0 : byteAt ls[i] 0 ≠ 32)
    (hb : byteAt ls[i] c = 58) (hne : ∀ j, j < c → byteAt ls[i] j ≠ 58) (hf : 78 < ls[i].size → ∀ k, c + 2 ≤ k → k ≤ 78 → foldB ls[i] k = false) : ∀ (n k8 : Nat), k8 + n = c → Ev (fun k => missivelaw09_HeaderFolds.l1 k l true s ls (i : Int) 1 (k8 : Int)) r
  | 0, k8, hk => by
    refine Ev.step (fun k => by simp only [missivelaw09_HeaderFolds.l1]; rfl) ?_
    have hb0 : bt ls[i] 0 = ((byteAt ls[i] 0).toNat : Int) := by have := bt_byteAt ls[i] 0 (by omega); simpa using this
    rw [rdBF ls i hi, hb0]
    refine ev_yes (by omega) (ev_yes (by omega) (ev_yes (by omega) (ev_yes (by omega) ?_)))
    refine Ev.step (fun k => by simp only [missivelaw09_HeaderFolds.j3]; rfl) ?_
    rw [rdBF ls i hi, bt_byteAt ls[i] k8 (by omega)]
    refine ev_yes (by rw [bne_iff_ne]; exact nbyte h0) (ev_yes (by omega) (ev_yes (by omega) (ev_yes (by omega) (ev_yes (by omega) ?_))))
    obtain rfl : k8 = c := by omega
    refine ev_yes (by rw [hb]; rfl) ?_
    refine Ev.step (fun k => by simp only [missivelaw09_HeaderFolds.j4]; rfl) ?_
    have e : wrap64 ((k8 : Int) + 2) = ((k8 + 2 : Nat) : Int) := by unfold wrap64; omega
    rw [e]
    exact folds_l2 l s ls hls i hi hz r hr 79 (k8 + 2) (by omega) (by omega) (by omega) hf
  | n + 1, k8, hk => by
    refine Ev.step (fun k => by simp only [missivelaw09_HeaderFolds.l1]; rfl) ?_
    have hb0 : bt ls[i] 0 = ((byteAt ls[i] 0).toNat : Int) := by have := bt_byteAt ls[i] 0 (by omega); simpa using this
    rw [rdBF ls i hi, hb0]
    refine ev_yes (by omega) (ev_yes (by omega) (ev_yes (by omega) (ev_yes (by omega) ?_)))
    refine Ev.step (fun k => by simp only [missivelaw09_HeaderFolds.j3]; rfl) ?_
    rw [rdBF ls i hi, bt_byteAt ls[i] k8 (by omega), wrap_up k8 (by omega)]
    refine ev_yes (by rw [bne_iff_ne]; exact nbyte h0) (ev_yes (by omega) (ev_yes (by omega) (ev_yes (by omega) (ev_yes (by omega) ?_))))
    refine ev_no (nbyte (hne k8 (by omega))) ?_
    exact folds_name i hi hz r hr c hc hc2 h0 hb hne hf n (k8 + 1) (by omega)
theorem folds_l0 (hg : ∀ L ∈ ls, GoodLn (bl L)) (r : Bool) (hr : Ev (fun k => missivelaw09_HeaderFolds.l3 k l true s ([] : List Int) 0) r) : ∀ (n i : Nat), i + n = ls.length → Ev (fun k => missivelaw09_HeaderFolds.l0 k l true s ls (i : Int)) r
  | 0, i, hi => by
    refine Ev.step (fun k => by simp only [missivelaw09_HeaderFolds.l0]; rfl) ?_
    exact ev_no (by omega) hr
  | n + 1, i, hi => by
    have ih := folds_l0 hg r hr n (i + 1) (by omega)
    have hG := hg _ (List.getElem_mem (show i < ls.length by omega))
    obtain ⟨g1, g2, g3⟩ := hG
    rw [bl_length] at g1
    refine Ev.step (fun k => by simp only [missivelaw09_HeaderFolds.l0]; rfl) ?_
    rw [rdBF ls i (by omega)]
    refine ev_yes (by omega) (ev_yes (by omega) (ev_no (by omega) ?_))
    have e : (ls[i].toList == ([] : List UInt8)) = false := by rw [beq_eq_false_iff_ne, toList_bl]; exact g2
    simp only [e]
    refine Ev.step (fun k => by simp only [missivelaw09_HeaderFolds.j1]; rfl) ?_
    refine ev_no (by decide) ?_
    have hl := bl_length ls[i]
    rcases g3 with ⟨⟨t, ht⟩, hok⟩ | ⟨nm, v, hv, hnm, hn2, hn3, hok⟩
    · have hpos : 0 < ls[i].size := by rw [← hl, ht]; simp
      have hb32 : byteAt ls[i] 0 = 32 := by
        have := byteAt_list ls[i] 0 hpos
        rw [ht] at this
        exact (Option.some.inj this).symm
      refine Ev.step (fun k => by simp only [missivelaw09_HeaderFolds.l1]; rfl) ?_
      have hb0 : bt ls[i] 0 = ((byteAt ls[i] 0).toNat : Int) := by have := bt_byteAt ls[i] 0 (by omega); simpa using this
      rw [rdBF ls i (by omega), hb0, hb32]
      refine ev_yes (by omega) (ev_yes (by omega) (ev_yes (by omega) (ev_yes (by omega) ?_)))
      refine Ev.step (fun k => by simp only [missivelaw09_HeaderFolds.j3]; rfl) ?_
      refine ev_no (by decide) ?_
      refine Ev.step (fun k => by simp only [missivelaw09_HeaderFolds.j4]; rfl) ?_
      refine folds_l2 l s ls hls i (by omega) (by omega) r ih 79 1 (by omega) (by omega) (by omega) (fun h k h1 h2 => ?_)
      have := hok.2.2 (by omega) k (by omega) h2
      rwa [mkB_bl] at this
    · have hlen : ls[i].size = nm.length + 1 + v.length := by rw [← hl, hv]; simp; omega
      have hat : ∀ j, (hj : j < nm.length) → byteAt ls[i] j = nm[j] := fun j hj => by
        have := byteAt_list ls[i] j (by omega)
        rw [hv, List.getElem?_append_left hj, List.getElem?_eq_getElem hj] at this
        exact (Option.some.inj this).symm
      have hb58 : byteAt ls[i] nm.length = 58 := by
        have := byteAt_list ls[i] nm.length (by omega)
        rw [hv, List.getElem?_append_right (Nat.le_refl _)] at this
        simpa using this.symm
      have hpos : 0 < nm.length := List.length_pos_iff.2 hnm
      have := folds_name l s ls hls i (by omega) (by omega) r ih nm.length (by omega) hn2 (by rw [hat 0 hpos]; exact (hn3 _ (List.getElem_mem hpos)).1) hb58 (fun j hj => by rw [hat j hj]; exact (hn3 _ (List.getElem_mem hj)).2)
        (fun h k h1 h2 => by have := hok.2.2 (by omega) k (by omega) h2; rwa [mkB_bl] at this) nm.length 0 (by omega)
      exact this
end
theorem folds_l3 (l : List S35) (s : ByteArray) (hs : s.size ≤ 1099511627776) (hl : ∀ f ∈ l, f.f0.size ≤ 6000 ∧ f.f1.size ≤ 6000) (hn : l.length ≤ 1000000) (heq : (bl s).filter nwB = (l.flatMap wantL).filter nwB) : ∀ (n i : Nat) (acc : List UInt8), i + n = l.length → acc = (l.take i).flatMap wantL → acc.length ≤ 12001 * i →
    Ev (fun k => missivelaw09_HeaderFolds.l3 k l true s (ints acc) (i : Int)) true
  | 0, i, acc, hi, ha, hz => by
    refine Ev.step (fun k => by simp only [missivelaw09_HeaderFolds.l3]; rfl) ?_
    refine ev_no (by omega) (ev_yes (by trivial) ?_)
    refine Ev.bind (solid_ev s hs) ?_
    rw [ints_back]
    refine Ev.bind (solid_ev (mkB acc) (by rw [mkB_size]; omega)) (ev_done ?_)
    rw [List.take_of_length_le (by omega)] at ha
    rw [bl_mkB, ha, heq]
    simp
  | n + 1, i, acc, hi, ha, hz => by
    have hf := hl _ (List.getElem_mem (show i < l.length by omega))
    refine Ev.step (fun k => by simp only [missivelaw09_HeaderFolds.l3]; rfl) ?_
    rw [rd35 l i (by omega), wrap_up i (by omega)]
    refine ev_yes (by omega) (ev_yes (by omega) ?_)
    refine Ev.bind (named_ev _ (by omega)) ?_
    have et : (l.take (i + 1)).flatMap wantL = acc ++ wantL l[i] := by
      rw [List.take_succ_eq_append_getElem (by omega), List.flatMap_append, ← ha]
      simp
    by_cases h : isNameB l[i].f0 = true
    · have z1 : (l[i].f0 ++ (⟨#[58]⟩ : ByteArray)).size = l[i].f0.size + 1 := by rw [ByteArray.size_append]; rfl
      have z2 : ((l[i].f0 ++ (⟨#[58]⟩ : ByteArray)) ++ l[i].f1).size = l[i].f0.size + 1 + l[i].f1.size := by rw [ByteArray.size_append, z1]
      have ew : wantL l[i] = bl ((l[i].f0 ++ (⟨#[58]⟩ : ByteArray)) ++ l[i].f1) := by
        unfold wantL
        rw [if_pos h, bl_append, bl_append, show bl (⟨#[58]⟩ : ByteArray) = [58] from rfl]
        simp
      refine ev_yes h (ev_yes (by omega) (ev_yes (by rw [z1]; omega) (ev_yes (by rw [ints_length, z2]; omega) ?_)))
      have eb : ints acc ++ bytesOf ((l[i].f0 ++ (⟨#[58]⟩ : ByteArray)) ++ l[i].f1) = ints (acc ++ wantL l[i]) := by rw [ints_append, ew]; rfl
      rw [eb]
      refine folds_l3 l s hs hl hn heq n (i + 1) _ (by omega) et.symm ?_
      rw [List.length_append, ew, bl_length, z2]
      omega
    · refine ev_no h ?_
      have ew : wantL l[i] = [] := by unfold wantL; rw [if_neg h]
      rw [ew, List.append_nil] at et
      exact folds_l3 l s hs hl hn heq n (i + 1) acc (by omega) et.symm (by omega)
theorem wsum_bytes4 (l : List S35) : wsum l = 4 * bytesF l + 16 * l.length := by
  induction l with
  | nil => rfl
  | cons f l ih =>
    unfold wsum bytesF at *
    rw [List.map_cons, List.sum_cons, List.map_cons, List.sum_cons, List.length_cons]
    omega
theorem folds_ev (l : List S35) (hlen : l.length ≤ 4398046511104) : Ev (fun k => missivelaw09_HeaderFolds.f k l) true := by
  unfold missivelaw09_HeaderFolds.f
  refine Ev.bind small_ev ?_
  refine Ev.bind (few_ev l hlen) ?_
  by_cases hf : fewS l = true
  · refine ev_yes hf ?_
    obtain ⟨h35, hl420, hby, hsz⟩ := fewS_small hf
    have hws := wsum_bytes4 l
    have hW : header_Write.f l = some (mkB (writeL l)) := by unfold header_Write.f; rw [if_pos (by omega)]
    simp only [hW, Option.bind_some]
    have hwl := writeL_length l
    have hcat := writeL_cat l
    have hok : ∀ L ∈ (writtenF l).flatMap (·.2.1), (10 : UInt8) ∉ L ∧ (13 : UInt8) ∉ L ∧ GoodLn L := by
      intro L hL
      obtain ⟨g, hg, hL⟩ := List.mem_flatMap.1 hL
      obtain ⟨f, hf2, rfl⟩ := List.mem_map.1 hg
      have hn := (List.mem_filter.1 hf2).2
      have h9 := fieldLs_ok f hn
      exact ⟨h9.noLF L hL, h9.noCR L hL, fieldLs_good f hn L hL⟩
    have hlc := catL_length ((writtenF l).flatMap (·.2.1))
    rw [← hcat] at hlc
    have hlines : Ev (fun k => text_Lines.f k (mkB (writeL l))) (((writtenF l).flatMap (·.2.1)).map mkB) := by
      have := lines_l0 ((writtenF l).flatMap (·.2.1)) (fun L hL => (hok L hL).1) (fun L hL => (hok L hL).2.1) [] (by rw [← hcat]; omega) (by simp only [List.length_nil]; omega)
      rw [← hcat] at this
      exact this
    refine Ev.bind hlines ?_
    have h3 := folds_l3 l (mkB (writeL l)) (by rw [mkB_size]; omega) hsz (by omega) (by rw [bl_mkB]; exact nw_write l) l.length 0 [] (by omega) (by simp) (by simp)
    refine folds_l0 l (mkB (writeL l)) _ (by rw [List.length_map]; omega) ?_ true h3 _ 0 (Nat.zero_add _)
    intro L hL
    obtain ⟨M, hM, rfl⟩ := List.mem_map.1 hL
    exact (hok M hM).2.2
  · exact ev_no hf (Ev.now _)
end Go.Proofs.YtieompfmhnpnaaaGreat.H
end
section
namespace Go.Proofs.YtieompfmhnpnaaaGreat.H
open Go.RowKit Go.ChangeShapes Go.WideShapes Go.Proofs.YtieompfmhnpnaaaGreatW.PrintWords Go.Proofs.YtieompfmhnpnaaaGreatW.PrintLast Go.Proofs.YtieompfmhnpnaaaGreatW.PrintMore
set_option linter.unusedVariables false
instance : Inhabited S35 := ⟨⟨⟨#[]⟩, ⟨#[]⟩⟩⟩
instance : Inhabited S25 := ⟨⟨⟨#[]⟩, ⟨#[]⟩⟩⟩
theorem open_fields {H : Type} {enc : TypeId × Value → H} {W : World} {base : Nat} {spare : Nat → Bool} {held : Bool} {a : Option Addr} {len cap : Nat} {d : DataW H} {ps : List MemPlace} {ts : List TypeId} {ds : List (DataW H)} {j : Nat}
    (hsz : (DataW.weightsEach Tryz.prog ts ds).all (· ≤ reachBytes) = true) (ht : ts[j]? = some 33) (hd : ds[j]? = some d)
    (h : DataW.Trod enc Tryz.prog W base spare held 33 (.slice a len cap) d ps) : ∃ l0 : List S35, l0.length = len ∧ len ≤ cap ∧ len ≤ 4398046511104 ∧ Kd.C k35 W a len l0 := by
  obtain ⟨fuel, hf⟩ := h
  rcases Deep.open_slice_pairs Tryz.underlying33 Tryz.underlying35 (by kernel_rfl) rfl rfl (by kernel_rfl) (by kernel_rfl) hf with ⟨hcs, _⟩ | ⟨x, l, c, m, n, V0, V1, D0, D1, P0, P1, hcs, _, hl, hm, hmm, hx, hcell⟩
  · simp [Value.cells] at hcs
    obtain ⟨rfl, rfl, rfl⟩ := hcs
    exact ⟨[], rfl, Nat.le_refl _, by omega, rfl, by omega, fun h => absurd h (by omega)⟩
  · simp [Value.cells] at hcs
    obtain ⟨rfl, rfl, rfl⟩ := hcs
    obtain ⟨hx, _⟩ := Prod.mk.inj hx
    subst hx
    have z := sized_slice hsz ht hd Tryz.underlying33
    have hb : Tryz.prog.bytesOf 35 = 32 := by kernel_rfl
    rw [hb] at z
    simp only [List.length_map, List.length_range] at z
    have z2 : len * 32 ≤ 140737488351232 := Nat.le_trans (Nat.mul_le_mul_right _ (Nat.le_add_right _ _)) z
    have hlm : len ≤ m := by rw [hmm]; split <;> omega
    have each : ∀ i, i < m → ∃ q : S35, W.cell? (x.add (i * 2)) = some (.string q.f0) ∧ W.cell? (x.add (i * 2 + 1)) = some (.string q.f1) := by
      intro i hi
      obtain ⟨h0, h1, h2, h3⟩ := hcell i hi
      obtain ⟨s0, e0, _, _⟩ := DataW.trod_string Tryz.underlying9 h2
      obtain ⟨s1, e1, _, _⟩ := DataW.trod_string Tryz.underlying9 h3
      injection e0 with e0
      injection e1 with e1
      exact ⟨⟨s0, s1⟩, by rw [h0, e0], by rw [h1, e1]⟩
    obtain ⟨S, hS⟩ := Deep.choose_lt each
    refine ⟨(List.range len).map S, by simp, hl, by omega, by simp, by omega, fun h0 => ⟨x, rfl, fun i p hp => ?_⟩⟩
    have hi : i < len := by
      have := (List.getElem?_eq_some_iff.1 hp).1
      simpa using this
    obtain rfl : S i = p := by simpa [hi] using hp
    refine ⟨[.string (S i).f0, .string (S i).f1], rfl, k35_mk W (S i), fun q u hq => ?_⟩
    obtain ⟨c0, c1⟩ := hS i (by omega)
    match q, hq with
    | 0, hq => simp at hq; subst hq; exact c0
    | 1, hq => simp at hq; subst hq; exact c1
end Go.Proofs.YtieompfmhnpnaaaGreat.H
end
section
namespace Go.Proofs.YtieompfmhnpnaaaGreat.headerFolds
open Go.ChangeShapes Go.WideShapes Go.ChangeAt Go.RowKit
open Go.ChangeMaps (open_string shut_string)
set_option linter.unusedVariables false
theorem own : ownKnob Tryz.prog.godebug = none := by kernel_rfl
theorem laidOut : laidOutB Tryz.prog = true := by kernel_rfl
set_option maxRecDepth 100000 in
theorem lifted (os : Os) (started : os.Started) (H : Type) (enc : TypeId × Value → H) :
    ReturnsInHanded {} Tryz.checked os 7 .any (Rows.headerFoldsSpec.pre6 enc Tryz.prog Tryz.f7 Rows.headerFoldsRow.domain false) (Rows.headerFoldsSpec.post enc Tryz.prog Tryz.f7 false true false false) := by
  refine returnsInHanded_of_change_sized (C := Tryz.checked) own started (by kernel_rfl) Tryz.func7
    (ChangeSpec.witness6 (enc := enc) (C := Tryz.checked) false ⟨#[], #[.slice none 0 0], []⟩ 8 (by kernel_rfl) (by kernel_rfl) (by kernel_rfl) (by kernel_rfl)) ?_
  intro W base args ds gs before hval0 hW hcnd hsz0 _
  have hsz : (DataW.weightsEach Tryz.prog (Tryz.f7.params.toList ++ Rows.headerFoldsSpec.plain.varTypes Tryz.prog) (ds ++ gs)).all (· ≤ reachBytes) = true := hsz0
  have hval : ∀ (j : Nat) t v, Tryz.f7.params[j]? = some t → args[j]? = some v → Value.okWide Tryz.prog W .any base t v := hval0
  have hW' := hW
  obtain ⟨p, q, hA0, hV, rfl, hfz, hnd⟩ := hW
  have hA : DataW.TrodAll enc Tryz.prog W 0 (fun _ => true) true Tryz.f7.params.toList args.toList ds p := hA0
  rw [Tryz.params7] at hA hval hsz
  obtain ⟨v0, vs0, d0, ds0, p0, q0, hargs, rfl, rfl, h0, r0⟩ := trodAll_cons hA
  obtain ⟨rfl, rfl, rfl⟩ := trodAll_nil r0
  obtain rfl : args = #[v0] := by cases args; simp_all
  obtain ⟨rfl, rfl⟩ := trodVars_none hV
  obtain ⟨a0, len0, cap0, rfl⟩ := okWide_slice Tryz.underlying33 (hval 0 33 v0 rfl rfl)
  have k0 := h0
  have lt0 : ∀ x ∈ p0, x.block < W.heap.size := by obtain ⟨m, hm⟩ := k0; exact DataW.trod_lt m _ _ _ hm
  obtain ⟨z0, e0, w0, y0, c0⟩ := _root_.Go.Proofs.YtieompfmhnpnaaaGreat.H.open_fields hsz (j := 0) rfl rfl h0
  subst e0
  clear hA0 hval0 hsz0 hsz
  obtain ⟨k, hk⟩ := (_root_.Go.Proofs.YtieompfmhnpnaaaGreat.H.folds_ev z0 y0).rounds
  refine (_root_.Go.Proofs.YtieompfmhnpnaaaGreat.H.missivelaw09_HeaderFolds.calls k a0 cap0 z0 true W c0 w0 hk).mono fun e W' ⟨he, bel⟩ => ?_
  subst he
  exact ⟨_, rfl, _, _, _, [], _, [], hW', trodAll_mk1 (shut_bool Tryz.underlying4 _), (trodAll_cons_mk (Below.trod laidOut (by kernel_rfl) (of_decide_eq_true (by kernel_rfl)) k0 bel lt0) trodAll_mk0), rfl, bel.frame _, fun h => by cases h⟩
theorem over : Rows.headerFoldsRow.holds Tryz.pinned (OpenSpec.ofChange Rows.headerFoldsSpec) :=
  OpenClaim.holds_of_wide 7 Tryz.f7 rfl rfl rfl rfl rfl rfl rfl ⟨rfl, rfl, rfl, rfl, rfl⟩ rfl rfl rfl rfl rfl (by kernel_rfl) Tryz.func7 (by kernel_rfl)
    (of_decide_eq_true (by kernel_rfl)) (by unfold Func.isWrapper; first | (rw [if_pos (by decide +kernel)]; kernel_rfl) | (rw [if_neg (by decide +kernel)]; exact ⟨rfl, rfl⟩))
    (fun os started H enc _ => lifted os started H enc)
theorem proved : Rows.HeaderFoldsSaid := over
#print axioms proved
end Go.Proofs.YtieompfmhnpnaaaGreat.headerFolds
namespace Go.Proofs.YtieompfmhnpnaaaGreat
theorem headerFolds_holds : Rows.HeaderFoldsSaid := headerFolds.proved
end Go.Proofs.YtieompfmhnpnaaaGreat
end
