/- Contracts, several texts in one: XParseA, XParseB. -/
import Derived.Test.YtieompfmhnpnaaaGreatB0
import Derived.Test.YtieompfmhnpnaaaGreatBa
import Derived.Test.YtieompfmhnpnaaaGreatXPlain
import Derived.Test.YtieompfmhnpnaaaGreatShelf
import Derived.Deep.RegionHeld3
import Derived.Maps.AppendAt
import Derived.RangeFuncNested
namespace Go.Proofs.YtieompfmhnpnaaaGreat.H
open Go.RowKit Go.Proofs.YtieompfmhnpnaaaGreatW.PrintWords Go.Proofs.YtieompfmhnpnaaaGreatW.PrintLast Go.Proofs.YtieompfmhnpnaaaGreatW.PrintMore
set_option linter.unusedVariables false
set_option linter.unusedSimpArgs false

/-- A world that is another one but for some blocks and new ones. -/
structure FrameX (ex : Nat → Prop) (W W' : World) : Prop where
  os : W'.os = W.os
  tape : W'.tape = W.tape
  output : W'.output = W.output
  size : W.heap.size ≤ W'.heap.size
  block : ∀ i, i < W.heap.size → ¬ ex i → W'.heap[i]? = W.heap[i]?
theorem FrameX.refl (ex : Nat → Prop) (W : World) : FrameX ex W W := ⟨rfl, rfl, rfl, Nat.le_refl _, fun _ _ _ => rfl⟩
theorem FrameX.trans {ex : Nat → Prop} {a b c : World} (h : FrameX ex a b) (k : FrameX ex b c) : FrameX ex a c :=
  ⟨k.os.trans h.os, k.tape.trans h.tape, k.output.trans h.output, Nat.le_trans h.size k.size, fun i hi he => (k.block i (Nat.lt_of_lt_of_le hi h.size) he).trans (h.block i hi he)⟩
theorem FrameX.of_below {ex : Nat → Prop} {a b : World} (h : Below a.heap.size a b) : FrameX ex a b := ⟨h.os, h.tape, h.output, h.size, fun i hi _ => h.block i hi⟩
theorem FrameX.imp {ex ex' : Nat → Prop} {a b : World} (h : FrameX ex a b) (hi : ∀ i, i < a.heap.size → ex i → ex' i) : FrameX ex' a b := ⟨h.os, h.tape, h.output, h.size, fun i hl he => h.block i hl (fun e => he (hi i hl e))⟩
theorem FrameX.setCell {ex : Nat → Prop} {a b : World} (h : FrameX ex a b) (p : Addr) (hp : ex p.block) (v : Value) : FrameX ex a (b.setCell p v) :=
  h.trans ⟨rfl, rfl, rfl, by simp [World.setCell], fun i _ he => Below.heap_setCell _ _ _ _ (fun e => he (e ▸ hp))⟩
theorem FrameX.drewN {ex : Nat → Prop} {a b : World} (h : FrameX ex a b) (n : Nat) : FrameX ex a (b.drewN n) := ⟨h.os, h.tape, h.output, h.size, h.block⟩
theorem FrameX.grown {ex : Nat → Prop} {a b c : World} {row : Option Nat} (h : FrameX ex a b) (hg : b.grownBy c row) (hr : ∀ k, row = some k → k < a.heap.size → ex k) : FrameX ex a c :=
  ⟨hg.os.trans h.os, hg.tape.trans h.tape, hg.output.trans h.output, Nat.le_trans h.size hg.size, fun i hi he => (hg.block i (Nat.lt_of_lt_of_le hi h.size) (fun e => he (hr i e.symm hi))).trans (h.block i hi he)⟩

/-- Strings as the machine's cells. -/
def strVals (l : List ByteArray) : List Value := l.map Value.string
theorem strVals_length (l : List ByteArray) : (strVals l).length = l.length := by simp [strVals]
/-- What add does to the parts. -/
def addV (vs : List ByteArray) (s : ByteArray) : List ByteArray := if (trimS s).size = 0 then vs else vs ++ [trimS s]

set_option maxHeartbeats 1000000 in
set_option maxRecDepth 100000 in
theorem add_calls (n0 b1 : Nat) (vV : Value) (vs : List ByteArray) (s : ByteArray) (W : World) (hb : n0 ≤ b1) (hc : W.heap[b1]? = some (.cells #[vV] 42 (0, 0)))
    (hown : W.ownsRow n0 9 1 vV vs.length (strVals vs)) (hlen : vs.length ≤ 1099511627776) (hs : s.size ≤ 1099511627776) (hn : n0 ≤ W.heap.size) :
    Calls Tryz.prog 59 #[.string s, .pointer (some ⟨b1, 0, none⟩)] W fun e w' => e = .returned (.tuple #[]) ∧ ∃ vV', w'.heap[b1]? = some (.cells #[vV'] 42 (0, 0)) ∧ w'.ownsRow n0 9 1 vV' (addV vs s).length (strVals (addV vs s)) ∧
      (vV'.ownBlock = vV.ownBlock ∨ ∃ b, vV'.ownBlock = some b ∧ W.heap.size ≤ b) ∧ FrameX (fun i => i = b1 ∨ some i = vV.ownBlock) W w' := by
  obtain ⟨i0, hi, hz0, hz1, hz2⟩ := info_parts info9
  obtain ⟨kt, hkt⟩ := (trim_ev s hs).rounds
  have HT := Aside0.mk hkt
  clear hkt
  have hcell : W.cell? ⟨b1, 0, none⟩ = some vV := by simp [World.cell?, hc]
  have hfz : W.frozen? ⟨b1, 0, none⟩ = false := by simp [World.frozen?, hc]
  by_cases hz : (trimS s).size = 0
  · have hve : (trimS s).toList.isEmpty = true := by rw [toList_bl, List.isEmpty_iff_length_eq_zero, bl_length]; exact hz
    have hadd : addV vs s = vs := by unfold addV; rw [if_pos hz]
    have HA := Lib.hid hadd
    have HC := Aside0.mk hc
    clear hadd hz hc
    go_enter Tryz.func59, Tryz.ntmps59
    go_wp2_with fail
    refine (text_Trim.calls kt _ _ _ HT.out).mono ?_
    rintro e w1 ⟨rfl, ⟨n, rfl⟩⟩
    go_wp2_with fail
    go_end0
    rw [HA.out]
    exact ⟨rfl, vV, HC.out, hown, .inl rfl, (FrameX.refl _ W).drewN n⟩
  · have hve : (trimS s).toList.isEmpty = false := by
      rw [toList_bl]
      cases h : bl (trimS s) with
      | nil => exfalso; apply hz; rw [← bl_length, h]; rfl
      | cons _ _ => rfl
    have hadd : addV vs s = vs ++ [trimS s] := by unfold addV; rw [if_neg hz]
    have HA := Lib.hid hadd
    have HC := Aside0.mk hc
    clear hadd hz hc
    go_enter Tryz.func59, Tryz.ntmps59
    go_wp2_with fail
    refine (text_Trim.calls kt _ _ _ HT.out).mono ?_
    rintro e w1 ⟨rfl, ⟨n, rfl⟩⟩
    have hcell2 : ((W.drewN n).alloc (Obj.cells #[Value.string (trimS s)] 9)).cell? ⟨W.heap.size, 0, none⟩ = some (Value.string (trimS s)) := by
      rw [show (⟨W.heap.size, 0, none⟩ : Addr) = ⟨(W.drewN n).heap.size, 0, none⟩ from rfl, World.cell?_alloc_new]
      rfl
    go_wp2_with (at_builtin; refine wpList_append_own_at _ rfl _ _ 42 rfl n0 9 i0 (.string ⟨#[]⟩) 1 16 Tryz.underlying42 hi hz0 hz1 hz2 rfl (by decide) _ _ _ rfl ((pw_own_drewN hown n).alloc _) ⟨W.heap.size, 0, none⟩ 1 1 [.string (trimS s)] rfl rfl ?c1 ?c2 ?c3 ?c4 ?c5 ?_)
    case c1 =>
      intro j u hj
      match j, hj with
      | 0, hj => simp at hj; subst hj; rw [add_plain]; exact hcell2
    case c2 => intro u hu; simp at hu; subst hu; rfl
    case c3 => unfold maxLen; omega
    case c4 => omega
    case c5 => simp; omega
    intro v' w2 hown' hgrow _ hat
    have hb1lt : b1 < W.heap.size := (Array.getElem?_eq_some_iff.1 HC.out).1
    have hne : some b1 ≠ vV.ownBlock := fun e => by
      obtain ⟨cells, hcc⟩ := own_typed hown b1 e.symm
      rw [HC.out] at hcc
      injection hcc with hcc
      injection hcc with _ h2 _
      exact absurd h2 (by decide)
    have hold : w2.heap[b1]? = some (.cells #[vV] 42 (0, 0)) := by
      rw [hgrow.block b1 (by simp; omega) (by simpa using hne)]
      exact (Lib.alloc_old (W.drewN n) _ b1 hb1lt).trans HC.out
    have hcell3 : w2.cell? ⟨b1, 0, none⟩ = some vV := by simp [World.cell?, hold]
    have hfz3 : w2.frozen? ⟨b1, 0, none⟩ = false := by simp [World.frozen?, hold]
    have HO := Aside0.mk hown'
    have HG := Aside0.mk hgrow
    have HL := Aside0.mk hold
    have HAT := Aside0.mk hat
    obtain ⟨ao, n', cap, rfl⟩ : ∃ ao n' cap, v' = .slice ao n' cap := by
      obtain ⟨A, c, e⟩ := own_slice hown'
      exact ⟨_, _, _, e⟩
    clear hown' hgrow hold hcell2 hat
    go_wp2_with fail
    go_end0
    rw [HA.out]
    have hlt2 : b1 < w2.heap.size := (Array.getElem?_eq_some_iff.1 HL.out).1
    refine ⟨rfl, .slice ao n' cap, ?_, ?_, ?_, ?_⟩
    · have := blk_set HL.out 0 (.slice ao n' cap)
      simpa using this
    · have e : strVals (vs ++ [trimS s]) = strVals vs ++ [Value.string (trimS s)] := by simp [strVals]
      rw [e, List.length_append]
      have hne2 : (Value.slice ao n' cap).ownBlock ≠ some b1 := fun e2 => by
        obtain ⟨cells, hcc⟩ := own_typed HO.out b1 e2
        rw [HL.out] at hcc
        injection hcc with hcc
        injection hcc with _ h2 _
        exact absurd h2 (by decide)
      exact HO.out.kept (grownBy_setCell' w2 b1 _) (.inr hne2)
    · rcases HAT.out with h | h
      · exact .inl h
      · exact .inr ⟨_, h, by simp⟩
    · refine FrameX.setCell ?_ ⟨b1, 0, none⟩ (.inl rfl) _
      refine (((FrameX.refl _ W).drewN n).trans (FrameX.of_below ((Below.refl _ _).alloc (Nat.le_refl _) _))).grown HG.out (fun k hk _ => .inr hk.symm)
end Go.Proofs.YtieompfmhnpnaaaGreat.H

namespace Go.Proofs.YtieompfmhnpnaaaGreat.H
open Go.RowKit Go.Proofs.YtieompfmhnpnaaaGreatW.PrintWords Go.Proofs.YtieompfmhnpnaaaGreatW.PrintLast Go.Proofs.YtieompfmhnpnaaaGreatW.PrintMore
set_option linter.unusedVariables false
set_option linter.unusedSimpArgs false

/-- Fields as the machine's cells. -/
def fieldVals (l : List S35) : List Value := l.flatMap fun f => [.string f.f0, .string f.f1]
theorem fieldVals_length (l : List S35) : (fieldVals l).length = l.length * 2 := by
  induction l with
  | nil => rfl
  | cons x l ih => unfold fieldVals at *; simp at *; omega
theorem fieldVals_snoc (l : List S35) (f : S35) : fieldVals (l ++ [f]) = fieldVals l ++ [.string f.f0, .string f.f1] := by simp [fieldVals]
/-- Strings joined by spaces. -/
def joinS (vs : List ByteArray) : ByteArray := mkB (Lib.join (vs.map bl) [32])

theorem join_calls (n0 : Nat) (vV : Value) (vs : List ByteArray) (W : World) (hV : W.ownsRow n0 9 1 vV vs.length (strVals vs)) (hlen : vs.length ≤ 1099511627776) (hj : (joinS vs).size ≤ 140737488355328) :
    Calls Tryz.prog 58 #[vV, .string ⟨#[32]⟩] W fun e w' => e = .returned (.string (joinS vs)) ∧ Below W.heap.size W w' := by
  cases vs with
  | nil =>
    obtain ⟨A, c, rfl⟩ := own_slice hV
    refine (Tryz.strings_Join_none A c ⟨#[32]⟩ W).mono ?_
    rintro e w' ⟨rfl, rfl⟩
    exact ⟨rfl, Below.refl _ _⟩
  | cons x vs =>
    obtain ⟨g, cap, rfl, hg, hn⟩ := hV.form (by simp)
    have hcells : ∀ (j : Nat) y, (x :: vs)[j]? = some y → W.cell? ⟨g, 0 + j, none⟩ = some (.string y) := fun j y hy => by
      have hj2 : j < (x :: vs).length := (List.getElem?_eq_some_iff.1 hy).1
      rw [Nat.zero_add, hV.cellAt j (by omega)]
      unfold strVals
      rw [List.getElem?_map, hy]
      rfl
    refine (Tryz.strings_Join g 0 cap (x :: vs) ⟨#[32]⟩ W hcells ?_ (by omega) ?_ ?_).mono ?_
    · exact World.block_lt_of_cell? W ⟨g, 0 + 0, none⟩ (hcells 0 x rfl)
    · rcases hV.2 with ⟨h, _⟩ | ⟨g', cap', cur, h, _, _, hnc, _⟩
      · cases h
      · injection h with _ _ h3
        omega
    · have := hj
      unfold joinS at this
      rw [mkB_size] at this
      exact this
    · rintro e w' ⟨rfl, hb⟩
      exact ⟨rfl, hb⟩

theorem keep2 {W w w' : World} {p1 p2 : Addr} {v1 v2 : Value} (hb : Below W.heap.size w w') (h : w.cell? p1 = some v1 ∧ w.cell? p2 = some v2) (he : w.heap.size = W.heap.size := by rfl) :
    w'.cell? p1 = some v1 ∧ w'.cell? p2 = some v2 := by
  rw [← he] at hb
  exact ⟨pw_cell_below hb h.1, pw_cell_below hb h.2⟩
theorem keep2s {w : World} {g b0 b1 j : Nat} {v1 v2 u : Value} (h0 : g ≠ b0) (h1 : g ≠ b1) (h : w.cell? ⟨b0, 0, none⟩ = some v1 ∧ w.cell? ⟨b1, 0, none⟩ = some v2) :
    (w.setCell ⟨g, j, none⟩ u).cell? ⟨b0, 0, none⟩ = some v1 ∧ (w.setCell ⟨g, j, none⟩ u).cell? ⟨b1, 0, none⟩ = some v2 :=
  ⟨(World.cell?_setCell_far w ⟨g, j, none⟩ ⟨b0, 0, none⟩ u h0).trans h.1, (World.cell?_setCell_far w ⟨g, j, none⟩ ⟨b1, 0, none⟩ u h1).trans h.2⟩

set_option maxHeartbeats 2000000 in
set_option maxRecDepth 100000 in
theorem finish_calls (n0 b0 b1 : Nat) (vF vV : Value) (fs : List S35) (f : S35) (vs : List ByteArray) (W : World) (hb0 : n0 ≤ b0) (hb1 : n0 ≤ b1) (hc0 : W.heap[b0]? = some (.cells #[vF] 33 (0, 0))) (hc1 : W.heap[b1]? = some (.cells #[vV] 42 (0, 0)))
    (hF : W.ownsRow n0 35 2 vF (fs.length + 1) (fieldVals (fs ++ [f]))) (hV : W.ownsRow n0 9 1 vV vs.length (strVals vs)) (hlen : vs.length ≤ 1099511627776) (hfl : fs.length ≤ 1099511627776) (hj : (joinS vs).size ≤ 140737488355328) (hn : n0 ≤ W.heap.size) :
    Calls Tryz.prog 57 #[.pointer (some ⟨b0, 0, none⟩), .pointer (some ⟨b1, 0, none⟩)] W fun e w' => e = .returned (.tuple #[]) ∧ w'.heap[b0]? = some (.cells #[vF] 33 (0, 0)) ∧ w'.heap[b1]? = some (.cells #[.slice none 0 0] 42 (0, 0)) ∧
      w'.ownsRow n0 35 2 vF (fs.length + 1) (fieldVals (fs ++ [⟨f.f0, joinS vs⟩])) ∧ FrameX (fun i => i = b1 ∨ some i = vF.ownBlock) W w' := by
  obtain ⟨g, cap, rfl, hg, hn2⟩ := hF.form (by omega)
  have hfl2 := fieldVals_length fs
  have htgt : W.cell? ⟨g, fs.length * 2 + 1, none⟩ = some (.string f.f1) := by
    rw [hF.cellAt (fs.length * 2 + 1) (by omega), fieldVals_snoc, List.getElem?_append_right (by omega), hfl2]
    simp
  have hfz := hF.frozenAt (fs.length * 2 + 1)
  have HF := Aside0.mk hF
  clear hF
  generalize hM : fs.length = M at *
  generalize hN : M + 1 = N at *
  have hcell0 : W.cell? ⟨b0, 0, none⟩ = some (.slice (some ⟨g, 0, none⟩) N cap) := by simp [World.cell?, hc0]
  have hcell1 : W.cell? ⟨b1, 0, none⟩ = some vV := by simp [World.cell?, hc1]
  have HC0 := Aside0.mk hc0
  have HC1 := Aside0.mk hc1
  have HM := Lib.hid hM
  have HN := Lib.hid hN
  have q1 : IntKind.i64.wrap ((N : Int) - 1) = (N : Int) - 1 := IntWalk.i64_in _ (by omega)
  have q2 : ((N : Int) - 1).toNat = M := by omega
  have q3 : (0 : Int) ≤ (N : Int) - 1 := by omega
  have q4 : (N : Int) - 1 < (N : Int) := by omega
  have q5 : (0 : Int) < (N : Int) := by omega
  have Q2 := Lib.hid q2
  have q6 : (1 : Int) ≤ (N : Int) := by omega
  have q7 : 0 < N := by omega
  have q8 : 1 ≤ N := by omega
  have hg0 : g ≠ b0 := fun e => by subst e; obtain ⟨cells, hcc⟩ := own_typed HF.out _ rfl; rw [hc0] at hcc; injection hcc with hcc; injection hcc with _ h2 _; exact absurd h2 (by decide)
  have hg1 : g ≠ b1 := fun e => by subst e; obtain ⟨cells, hcc⟩ := own_typed HF.out _ rfl; rw [hc1] at hcc; injection hcc with hcc; injection hcc with _ h2 _; exact absurd h2 (by decide)
  clear hc0 hc1 hM hN hfl2 q2
  go_enter Tryz.func57, Tryz.ntmps57
  go_wp2_with fail
  have q2 := Q2.out
  have hglt : g < W.heap.size := World.block_lt_of_cell? W _ htgt
  go_region_held3 (fun w' => w'.cell? ⟨b0, 0, none⟩ = some (.slice (some ⟨g, 0, none⟩) N cap) ∧ w'.cell? ⟨b1, 0, none⟩ = some vV)
    (first | go_keep | (exact keep2 (by assumption) (by assumption)) | (exact keep2s hg0 hg1 (by assumption)))
    (first
      | (go_at_call 58; refine (join_calls n0 vV vs _ (pw_own_drewN hV _) hlen hj).mono ?_; rintro e w3 ⟨rfl, hb3⟩; have ht3 := (hb3.cell (p := ⟨g, M * 2 + 1, none⟩) hglt).trans htgt; have hf3 := (hb3.frozen (p := ⟨g, M * 2 + 1, none⟩) hglt).trans hfz))
  have hb1lt : b1 < W.heap.size := World.block_lt_of_cell? W _ hcell1
  have HB3 := Aside0.mk hb3
  have hd1 : (w3.setCell ⟨g, M * 2 + 1, none⟩ (.string (joinS vs))).cell? ⟨b1, 0, none⟩ = some vV := (World.cell?_setCell_far _ ⟨g, M * 2 + 1, none⟩ ⟨b1, 0, none⟩ _ hg1).trans ((hb3.cell (p := ⟨b1, 0, none⟩) hb1lt).trans hcell1)
  have hfd : (w3.setCell ⟨g, M * 2 + 1, none⟩ (.string (joinS vs))).frozen? ⟨b1, 0, none⟩ = false := by
    rw [World.frozen?_setCell]
    refine (hb3.frozen (p := ⟨b1, 0, none⟩) hb1lt).trans ?_
    have := HC1.out
    simp [World.frozen?, this]
  clear hb3 ht3 hf3
  go_wp2_with fail
  go_end0
  obtain ⟨w4, hw4⟩ : ∃ w4, w4 = w3.setCell ⟨g, M * 2 + 1, none⟩ (.string (joinS vs)) := ⟨_, rfl⟩
  have hW3 : Below W.heap.size W w3 := (pw_below_drewN (Below.refl _ _) _).trans HB3.out
  have hb0lt : b0 < W.heap.size := World.block_lt_of_cell? W _ hcell0
  have e0 : w4.heap[b0]? = some (.cells #[.slice (some ⟨g, 0, none⟩) N cap] 33 (0, 0)) := by
    rw [hw4]
    exact blk_far ((hW3.block b0 hb0lt).trans HC0.out) (Ne.symm hg0) _
  have e1 : w4.heap[b1]? = some (.cells #[vV] 42 (0, 0)) := by
    rw [hw4]
    exact blk_far ((hW3.block b1 hb1lt).trans HC1.out) (Ne.symm hg1) _
  have h3 : w3.ownsRow n0 35 2 (.slice (some ⟨g, 0, none⟩) N cap) N (fieldVals (fs ++ [f])) := pw_own_below HF.out hW3
  have h4 : w4.ownsRow n0 35 2 (.slice (some ⟨g, 0, none⟩) N cap) N (fieldVals (fs ++ [⟨f.f0, joinS vs⟩])) := by
    have := (h3.stored (M * 2 + 1) (.string (joinS vs))).1
    rw [hw4]
    have e : (fieldVals (fs ++ [f])).set (M * 2 + 1) (.string (joinS vs)) = fieldVals (fs ++ [⟨f.f0, joinS vs⟩]) := by
      have hl := fieldVals_length fs
      rw [HM.out] at hl
      rw [fieldVals_snoc, fieldVals_snoc, List.set_append_right _ _ (by omega), hl]
      simp
    rw [e] at this
    exact this
  have hb01 : b1 ≠ b0 := fun e => by rw [e, e0] at e1; injection e1 with e1; injection e1 with _ h2 _; exact absurd h2 (by decide)
  rw [← hw4]
  refine ⟨rfl, blk_far e0 (Ne.symm hb01) _, ?_, ?_, ?_⟩
  · have := blk_set e1 0 (.slice none 0 0)
    simpa using this
  · exact h4.kept (grownBy_setCell' w4 b1 _) (.inr (by simp [Value.ownBlock]; exact hg1))
  · refine FrameX.setCell ?_ ⟨b1, 0, none⟩ (.inl rfl) _
    rw [hw4]
    exact (FrameX.of_below hW3).setCell ⟨g, M * 2 + 1, none⟩ (.inr rfl) _

set_option maxHeartbeats 2000000 in
set_option maxRecDepth 100000 in
/-- finish where there is no field yet. -/
theorem finish_none (n0 b0 b1 : Nat) (vF vV : Value) (W : World) (hc0 : W.heap[b0]? = some (.cells #[vF] 33 (0, 0))) (hc1 : W.heap[b1]? = some (.cells #[vV] 42 (0, 0)))
    (hF : W.ownsRow n0 35 2 vF 0 []) :
    Calls Tryz.prog 57 #[.pointer (some ⟨b0, 0, none⟩), .pointer (some ⟨b1, 0, none⟩)] W fun e w' => e = .returned (.tuple #[]) ∧ w'.heap[b0]? = some (.cells #[vF] 33 (0, 0)) ∧ w'.heap[b1]? = some (.cells #[.slice none 0 0] 42 (0, 0)) ∧
      w'.ownsRow n0 35 2 vF 0 [] ∧ FrameX (fun i => i = b1 ∨ some i = vF.ownBlock) W w' := by
  obtain ⟨A, c, rfl⟩ := own_slice hF
  have hcell0 : W.cell? ⟨b0, 0, none⟩ = some (.slice A 0 c) := by simp [World.cell?, hc0]
  have hcell1 : W.cell? ⟨b1, 0, none⟩ = some vV := by simp [World.cell?, hc1]
  have hfd : W.frozen? ⟨b1, 0, none⟩ = false := by simp [World.frozen?, hc1]
  have hb01 : b1 ≠ b0 := fun e => by rw [e, hc0] at hc1; injection hc1 with e1; injection e1 with _ h2 _; exact absurd h2 (by decide)
  have hne : (Value.slice A 0 c).ownBlock ≠ some b1 := fun e => by
    obtain ⟨cells, hcc⟩ := own_typed hF b1 e
    rw [hc1] at hcc
    injection hcc with hcc
    injection hcc with _ h2 _
    exact absurd h2 (by decide)
  have HC0 := Aside0.mk hc0
  have HC1 := Aside0.mk hc1
  have HF := Aside0.mk hF
  clear hc0 hc1 hF
  go_enter Tryz.func57, Tryz.ntmps57
  go_wp2_with fail
  go_end0
  refine ⟨rfl, blk_far HC0.out (Ne.symm hb01) _, ?_, HF.out.kept (grownBy_setCell' W b1 _) (.inr hne), (FrameX.refl _ W).setCell ⟨b1, 0, none⟩ (.inl rfl) _⟩
  have := blk_set HC1.out 0 (.slice none 0 0)
  simpa using this
end Go.Proofs.YtieompfmhnpnaaaGreat.H
