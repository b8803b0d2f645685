/- Plain laws: the lines of a text, and what Parse makes of the lines of a field. -/
import Derived.Test.YtieompfmhnpnaaaGreatXParse
import Derived.Test.YtieompfmhnpnaaaGreatXWrite
namespace Go.Proofs.YtieompfmhnpnaaaGreat.H
open Go.RowKit Go.Proofs.YtieompfmhnpnaaaGreatW.PrintWords Go.Proofs.YtieompfmhnpnaaaGreatW.PrintLast Go.Proofs.YtieompfmhnpnaaaGreatW.PrintMore
set_option linter.unusedVariables false
set_option linter.unusedSimpArgs false

theorem indexByte_cut {l r : List UInt8} {c : UInt8} (h : c ∉ l) : Lib.indexByte (l ++ c :: r) c = l.length := by
  induction l with
  | nil => simp [Lib.indexByte]
  | cons b l ih =>
    have hb : (b == c) = false := by
      rw [beq_eq_false_iff_ne]
      exact fun e => h (by rw [e]; exact List.mem_cons_self)
    have ih := ih (fun hm => h (List.mem_cons_of_mem _ hm))
    rw [List.cons_append, Lib.indexByte, hb, ih]
    have h1 : (((l.length : Nat) : Int) == -1) = false := by
      rw [beq_eq_false_iff_ne]; omega
    rw [h1]
    simp
theorem indexByte_not {l : List UInt8} {c : UInt8} (h : c ∉ l) : Lib.indexByte l c = -1 := by
  induction l with
  | nil => rfl
  | cons b l ih =>
    have hb : (b == c) = false := by
      rw [beq_eq_false_iff_ne]
      exact fun e => h (by rw [e]; exact List.mem_cons_self)
    rw [Lib.indexByte, hb, ih (fun hm => h (List.mem_cons_of_mem _ hm))]
    rfl
theorem cutAt_cut {s : ByteArray} {l r : List UInt8} {c : UInt8} (hs : bl s = l ++ c :: r) (h : c ∉ l) : cutAt s c = (mkB l, mkB r, true) := by
  have hi : Lib.indexByte s.data.toList c = l.length := by
    have : s.data.toList = l ++ c :: r := hs
    rw [this]
    exact indexByte_cut h
  have hl : s.size = l.length + 1 + r.length := by rw [← bl_length, hs]; simp; omega
  unfold cutAt
  rw [hi]
  simp only [Int.toNat_natCast]
  rw [if_pos (by omega)]
  have e1 : s.extract 0 l.length = mkB l := bl_inj (by rw [bl_extract, hs, bl_mkB]; simp)
  have e2 : s.extract (l.length + 1) s.size = mkB r := bl_inj (by
    rw [bl_extract (s := s)]
    rw [hs, List.take_of_length_le (by simp; omega), List.drop_append]
    simp)
  rw [e1, e2]
theorem cutAt_not {s : ByteArray} {c : UInt8} (h : c ∉ bl s) : cutAt s c = (s, ⟨#[]⟩, false) := by
  unfold cutAt
  have : Lib.indexByte s.data.toList c = -1 := indexByte_not h
  rw [this]
  rfl

/-- Lines, each with its LF. -/
def catL (ls : List (List UInt8)) : List UInt8 := ls.flatMap fun l => l ++ [10]
def lineXs : Nat → List (List UInt8) → List LineX
  | _, [] => []
  | off, l :: ls => ⟨trimCR (mkB l), off, off + l.length + 1⟩ :: lineXs (off + l.length + 1) ls
theorem linesAt_cat (T : ByteArray) : ∀ (ls : List (List UInt8)) (k : Nat) (pre rest : List UInt8), bl T = pre ++ (catL ls ++ rest) → (∀ l ∈ ls, (10 : UInt8) ∉ l) →
    linesAt T (k + ls.length) pre.length = lineXs pre.length ls ++ linesAt T k (pre ++ catL ls).length
  | [], k, pre, rest, _, _ => by simp [lineXs, catL]
  | l :: ls, k, pre, rest, hT, hn => by
    have hc : catL (l :: ls) = l ++ 10 :: catL ls := by simp [catL]
    have hlen : T.size = pre.length + (l.length + 1 + (catL ls).length) + rest.length := by rw [← bl_length, hT, hc]; simp; omega
    have hx : bl (T.extract pre.length T.size) = l ++ 10 :: (catL ls ++ rest) := by
      rw [bl_extract, List.take_of_length_le (by rw [bl_length]; exact Nat.le_refl _), hT, List.drop_left, hc]
      simp
    have hcut := cutAt_cut hx (hn l List.mem_cons_self)
    have hline : lineAt T pre.length = ⟨trimCR (mkB l), pre.length, pre.length + l.length + 1⟩ := by
      unfold lineAt
      rw [hcut]
      simp only [mkB_size]
      rfl
    rw [List.length_cons, show k + (ls.length + 1) = (k + ls.length) + 1 by omega, linesAt, if_pos (by omega), hline]
    have ih := linesAt_cat T ls k (pre ++ (l ++ [10])) rest (by rw [hT, hc]; simp) (fun x hx => hn x (List.mem_cons_of_mem _ hx))
    have e1 : (pre ++ (l ++ [10])).length = pre.length + l.length + 1 := by simp; omega
    rw [e1] at ih
    rw [ih, lineXs]
    have e2 : pre ++ (l ++ [10]) ++ catL ls = pre ++ catL (l :: ls) := by rw [hc]; simp
    rw [e2]
    rfl
theorem catL_length (ls : List (List UInt8)) : ls.length ≤ (catL ls).length := by
  induction ls with
  | nil => simp
  | cons l ls ih =>
    have hc : catL (l :: ls) = l ++ 10 :: catL ls := by simp [catL]
    rw [hc]
    simp
    omega
theorem linesOf_cat (ls : List (List UInt8)) (rest : List UInt8) (hn : ∀ l ∈ ls, (10 : UInt8) ∉ l) :
    ∃ k, 1 + rest.length ≤ k ∧ linesOf (mkB (catL ls ++ rest)) = lineXs 0 ls ++ linesAt (mkB (catL ls ++ rest)) k (catL ls).length := by
  have hs : (mkB (catL ls ++ rest)).size = (catL ls).length + rest.length := by rw [mkB_size]; simp
  have hl := catL_length ls
  refine ⟨(mkB (catL ls ++ rest)).size + 1 - ls.length, by omega, ?_⟩
  have := linesAt_cat (mkB (catL ls ++ rest)) ls ((mkB (catL ls ++ rest)).size + 1 - ls.length) [] rest (by rw [bl_mkB]; rfl) hn
  unfold linesOf
  rw [show (mkB (catL ls ++ rest)).size + 1 = ((mkB (catL ls ++ rest)).size + 1 - ls.length) + ls.length by omega]
  simpa using this
theorem linesAt_done (T : ByteArray) (k : Nat) : linesAt T k T.size = [] := by
  cases k with
  | zero => rfl
  | succ k => rw [linesAt, if_neg (by omega)]
/-- .. behind it an empty line. -/
theorem linesAt_empty (T : ByteArray) (k : Nat) (pre rest : List UInt8) (hT : bl T = pre ++ 10 :: rest) (hk : 1 ≤ k) :
    ∃ more, linesAt T k pre.length = ⟨⟨#[]⟩, pre.length, pre.length + 1⟩ :: more := by
  obtain ⟨k, rfl⟩ : ∃ m, k = m + 1 := ⟨k - 1, by omega⟩
  have hlen : T.size = pre.length + (1 + rest.length) := by rw [← bl_length, hT]; simp; omega
  have hx : bl (T.extract pre.length T.size) = [] ++ 10 :: rest := by
    rw [bl_extract, List.take_of_length_le (by rw [bl_length]; exact Nat.le_refl _), hT, List.drop_left]
    rfl
  have hcut := cutAt_cut hx (by simp)
  have hline : lineAt T pre.length = ⟨⟨#[]⟩, pre.length, pre.length + 1⟩ := by
    unfold lineAt
    rw [hcut]
    simp only [mkB_size]
    rfl
  rw [linesAt, if_pos (by omega), hline]
  exact ⟨_, rfl⟩

/-- A line without CR is its own content. -/
theorem trimCR_no {l : List UInt8} (h : (13 : UInt8) ∉ l) : trimCR (mkB l) = mkB l := by
  unfold trimCR
  rw [if_neg]
  rintro ⟨h1, h2⟩
  rw [toList_bl, bl_extract, bl_mkB] at h2
  apply h
  have : (13 : UInt8) ∈ (l.take (mkB l).size).drop ((mkB l).size - 1) := by rw [h2]; simp
  exact List.mem_of_mem_take (List.mem_of_mem_drop this)
end Go.Proofs.YtieompfmhnpnaaaGreat.H
