/- Words for the laws' rows: an argument that is a slice of structs of two strings, opened. -/
import Derived.Test.YtieompfmhnpnaaaGreatB0
import Derived.Deep.SlicePairs
import Derived.SizedLaws
import Derived.ChangeArms
import Derived.Carry
namespace Go.Proofs.YtieompfmhnpnaaaGreat.H
open Go.RowKit Go.ChangeShapes Go.WideShapes Go.Proofs.YtieompfmhnpnaaaGreatW.PrintWords Go.Proofs.YtieompfmhnpnaaaGreatW.PrintLast Go.Proofs.YtieompfmhnpnaaaGreatW.PrintMore
set_option linter.unusedVariables false

instance : Inhabited S35 := ⟨⟨⟨#[]⟩, ⟨#[]⟩⟩⟩
instance : Inhabited S25 := ⟨⟨⟨#[]⟩, ⟨#[]⟩⟩⟩

theorem open_fields {H : Type} {enc : TypeId × Value → H} {W : World} {base : Nat} {spare : Nat → Bool} {held : Bool} {a : Option Addr} {len cap : Nat} {d : DataW H} {ps : List MemPlace} {ts : List TypeId} {ds : List (DataW H)} {j : Nat}
    (hsz : (DataW.weightsEach Tryz.prog ts ds).all (· ≤ reachBytes) = true) (ht : ts[j]? = some 33) (hd : ds[j]? = some d)
    (h : DataW.Trod enc Tryz.prog W base spare held 33 (.slice a len cap) d ps) : ∃ l0 : List S35, l0.length = len ∧ len ≤ cap ∧ len ≤ 4398046511104 ∧ Kd.C k35 W a len l0 := by
  obtain ⟨fuel, hf⟩ := h
  rcases Deep.open_slice_pairs Tryz.underlying33 Tryz.underlying35 (by kernel_rfl) rfl rfl (by kernel_rfl) (by kernel_rfl) hf with ⟨hcs, _⟩ | ⟨x, l, c, m, n, V0, V1, D0, D1, P0, P1, hcs, _, hl, hm, hmm, hx, hcell⟩
  · simp [Value.cells] at hcs
    obtain ⟨rfl, rfl, rfl⟩ := hcs
    exact ⟨[], rfl, Nat.le_refl _, by omega, rfl, by omega, fun h => absurd h (by omega)⟩
  · simp [Value.cells] at hcs
    obtain ⟨rfl, rfl, rfl⟩ := hcs
    obtain ⟨hx, _⟩ := Prod.mk.inj hx
    subst hx
    have z := sized_slice hsz ht hd Tryz.underlying33
    have hb : Tryz.prog.bytesOf 35 = 32 := by kernel_rfl
    rw [hb] at z
    simp only [List.length_map, List.length_range] at z
    have z2 : len * 32 ≤ 140737488351232 := Nat.le_trans (Nat.mul_le_mul_right _ (Nat.le_add_right _ _)) z
    have hlm : len ≤ m := by rw [hmm]; split <;> omega
    have each : ∀ i, i < m → ∃ q : S35, W.cell? (x.add (i * 2)) = some (.string q.f0) ∧ W.cell? (x.add (i * 2 + 1)) = some (.string q.f1) := by
      intro i hi
      obtain ⟨h0, h1, h2, h3⟩ := hcell i hi
      obtain ⟨s0, e0, _, _⟩ := DataW.trod_string Tryz.underlying9 h2
      obtain ⟨s1, e1, _, _⟩ := DataW.trod_string Tryz.underlying9 h3
      injection e0 with e0
      injection e1 with e1
      exact ⟨⟨s0, s1⟩, by rw [h0, e0], by rw [h1, e1]⟩
    obtain ⟨S, hS⟩ := Deep.choose_lt each
    refine ⟨(List.range len).map S, by simp, hl, by omega, by simp, by omega, fun h0 => ⟨x, rfl, fun i p hp => ?_⟩⟩
    have hi : i < len := by
      have := (List.getElem?_eq_some_iff.1 hp).1
      simpa using this
    obtain rfl : S i = p := by simpa [hi] using hp
    refine ⟨[.string (S i).f0, .string (S i).f1], rfl, k35_mk W (S i), fun q u hq => ?_⟩
    obtain ⟨c0, c1⟩ := hS i (by omega)
    match q, hq with
    | 0, hq => simp at hq; subst hq; exact c0
    | 1, hq => simp at hq; subst hq; exact c1
theorem open_params {H : Type} {enc : TypeId × Value → H} {W : World} {base : Nat} {spare : Nat → Bool} {held : Bool} {a : Option Addr} {len cap : Nat} {d : DataW H} {ps : List MemPlace} {ts : List TypeId} {ds : List (DataW H)} {j : Nat}
    (hsz : (DataW.weightsEach Tryz.prog ts ds).all (· ≤ reachBytes) = true) (ht : ts[j]? = some 22) (hd : ds[j]? = some d)
    (h : DataW.Trod enc Tryz.prog W base spare held 22 (.slice a len cap) d ps) : ∃ l0 : List S25, l0.length = len ∧ len ≤ cap ∧ len ≤ 4398046511104 ∧ Kd.C k25 W a len l0 := by
  obtain ⟨fuel, hf⟩ := h
  rcases Deep.open_slice_pairs Tryz.underlying22 Tryz.underlying25 (by kernel_rfl) rfl rfl (by kernel_rfl) (by kernel_rfl) hf with ⟨hcs, _⟩ | ⟨x, l, c, m, n, V0, V1, D0, D1, P0, P1, hcs, _, hl, hm, hmm, hx, hcell⟩
  · simp [Value.cells] at hcs
    obtain ⟨rfl, rfl, rfl⟩ := hcs
    exact ⟨[], rfl, Nat.le_refl _, by omega, rfl, by omega, fun h => absurd h (by omega)⟩
  · simp [Value.cells] at hcs
    obtain ⟨rfl, rfl, rfl⟩ := hcs
    obtain ⟨hx, _⟩ := Prod.mk.inj hx
    subst hx
    have z := sized_slice hsz ht hd Tryz.underlying22
    have hb : Tryz.prog.bytesOf 25 = 32 := by kernel_rfl
    rw [hb] at z
    simp only [List.length_map, List.length_range] at z
    have z2 : len * 32 ≤ 140737488351232 := Nat.le_trans (Nat.mul_le_mul_right _ (Nat.le_add_right _ _)) z
    have hlm : len ≤ m := by rw [hmm]; split <;> omega
    have each : ∀ i, i < m → ∃ q : S25, W.cell? (x.add (i * 2)) = some (.string q.f0) ∧ W.cell? (x.add (i * 2 + 1)) = some (.string q.f1) := by
      intro i hi
      obtain ⟨h0, h1, h2, h3⟩ := hcell i hi
      obtain ⟨s0, e0, _, _⟩ := DataW.trod_string Tryz.underlying9 h2
      obtain ⟨s1, e1, _, _⟩ := DataW.trod_string Tryz.underlying9 h3
      injection e0 with e0
      injection e1 with e1
      exact ⟨⟨s0, s1⟩, by rw [h0, e0], by rw [h1, e1]⟩
    obtain ⟨S, hS⟩ := Deep.choose_lt each
    refine ⟨(List.range len).map S, by simp, hl, by omega, by simp, by omega, fun h0 => ⟨x, rfl, fun i p hp => ?_⟩⟩
    have hi : i < len := by
      have := (List.getElem?_eq_some_iff.1 hp).1
      simpa using this
    obtain rfl : S i = p := by simpa [hi] using hp
    refine ⟨[.string (S i).f0, .string (S i).f1], rfl, k25_mk W (S i), fun q u hq => ?_⟩
    obtain ⟨c0, c1⟩ := hS i (by omega)
    match q, hq with
    | 0, hq => simp at hq; subst hq; exact c0
    | 1, hq => simp at hq; subst hq; exact c1
end Go.Proofs.YtieompfmhnpnaaaGreat.H
