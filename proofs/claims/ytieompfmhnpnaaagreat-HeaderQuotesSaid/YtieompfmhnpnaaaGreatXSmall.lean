/- Contracts by hand: missivelaw09.small: the documentation's examples hold. -/
import Derived.Test.YtieompfmhnpnaaaGreatB0
import Derived.Test.YtieompfmhnpnaaaGreatBa
import Derived.Test.YtieompfmhnpnaaaGreatXParams
import Derived.Test.YtieompfmhnpnaaaGreatXParse
import Derived.Test.YtieompfmhnpnaaaGreatXQuote
import Derived.Test.YtieompfmhnpnaaaGreatXWrite
namespace Go.Proofs.YtieompfmhnpnaaaGreat.H
open Go.RowKit Go.Proofs.YtieompfmhnpnaaaGreatW.PrintWords Go.Proofs.YtieompfmhnpnaaaGreatW.PrintLast Go.Proofs.YtieompfmhnpnaaaGreatW.PrintMore
set_option linter.unusedVariables false
set_option linter.unusedSimpArgs false
theorem lit_C35 (W : World) (l : List S35) (hl : l.length ≤ 1000) : Kd.C k35 (W.alloc (.cells (fieldVals l).toArray 35)) (some ⟨W.heap.size, 0, none⟩) l.length l := by
  refine ⟨rfl, by omega, fun _ => ⟨_, rfl, fun j p hj => ⟨[.string p.f0, .string p.f1], rfl, k35_mk _ p, fun i u hu => ?_⟩⟩⟩
  have key : ∀ (l : List S35) (j : Nat), l[j]? = some p → (fieldVals l)[j * 2 + i]? = some u := by
    intro l
    induction l with
    | nil => intro j h; simp at h
    | cons x l ih =>
      intro j hj
      match j, hj with
      | 0, hj =>
        obtain rfl : x = p := by simpa using hj
        rw [Nat.zero_mul, Nat.zero_add]
        match i, hu with
        | 0, hu => exact hu
        | 1, hu => exact hu
      | j + 1, hj =>
        have := ih j (by simpa using hj)
        have e1 : fieldVals (x :: l) = .string x.f0 :: .string x.f1 :: fieldVals l := rfl
        rw [e1, show (j + 1) * 2 + i = j * 2 + i + 1 + 1 by omega]
        exact this
  rw [show k35.sz = 2 from rfl, add_plain, World.cell?_alloc_new]
  simpa using key l j hj
theorem lit_C25 (W : World) (l : List S25) (hl : l.length ≤ 1000) : Kd.C k25 (W.alloc (.cells (paramVals l).toArray 25)) (some ⟨W.heap.size, 0, none⟩) l.length l := by
  refine ⟨rfl, by omega, fun _ => ⟨_, rfl, fun j p hj => ⟨[.string p.f0, .string p.f1], rfl, k25_mk _ p, fun i u hu => ?_⟩⟩⟩
  have key : ∀ (l : List S25) (j : Nat), l[j]? = some p → (paramVals l)[j * 2 + i]? = some u := by
    intro l
    induction l with
    | nil => intro j h; simp at h
    | cons x l ih =>
      intro j hj
      match j, hj with
      | 0, hj =>
        obtain rfl : x = p := by simpa using hj
        rw [Nat.zero_mul, Nat.zero_add]
        match i, hu with
        | 0, hu => exact hu
        | 1, hu => exact hu
      | j + 1, hj =>
        have := ih j (by simpa using hj)
        have e1 : paramVals (x :: l) = .string x.f0 :: .string x.f1 :: paramVals l := rfl
        rw [e1, show (j + 1) * 2 + i = j * 2 + i + 1 + 1 by omega]
        exact this
  rw [show k25.sz = 2 from rfl, add_plain, World.cell?_alloc_new]
  simpa using key l j hj

set_option maxHeartbeats 4000000 in
set_option maxRecDepth 100000 in
theorem small_calls (w : World) : Calls Tryz.prog 10 #[] w fun e w' => e = .returned (.bool true) ∧ Below w.heap.size w w' := by
  have p1 : header_Parse.f (⟨#[65, 58, 32, 49, 10, 32, 32, 50, 10, 98, 58, 10, 10, 120]⟩ : ByteArray) = some ([⟨(⟨#[65]⟩ : ByteArray), (⟨#[49, 32, 50]⟩ : ByteArray)⟩, ⟨(⟨#[98]⟩ : ByteArray), (⟨#[]⟩ : ByteArray)⟩], 13) := by kernel_rfl
  have p2 : header_Parse.f (⟨#[65, 58, 32, 49, 10, 110, 111, 32, 102, 105, 101, 108, 100, 10]⟩ : ByteArray) = some ([⟨(⟨#[65]⟩ : ByteArray), (⟨#[49]⟩ : ByteArray)⟩], 5) := by kernel_rfl
  have p3 : header_Params.f (⟨#[116, 101, 120, 116, 47, 112, 108, 97, 105, 110, 59, 32, 67, 104, 97, 114, 115, 101, 116, 61, 117, 116, 102, 45, 56, 59, 32, 120, 59, 32, 110, 97, 109, 101, 61, 34, 97, 32, 92, 34, 98, 34]⟩ : ByteArray) = some ((⟨#[116, 101, 120, 116, 47, 112, 108, 97, 105, 110]⟩ : ByteArray), [⟨(⟨#[99, 104, 97, 114, 115, 101, 116]⟩ : ByteArray), (⟨#[117, 116, 102, 45, 56]⟩ : ByteArray)⟩, ⟨(⟨#[110, 97, 109, 101]⟩ : ByteArray), (⟨#[97, 32, 34, 98]⟩ : ByteArray)⟩]) := by kernel_rfl
  have p4 : header_Quote.f (⟨#[116, 101, 120, 116, 47, 112, 108, 97, 105, 110]⟩ : ByteArray) [⟨(⟨#[99, 104, 97, 114, 115, 101, 116]⟩ : ByteArray), (⟨#[117, 116, 102, 45, 56]⟩ : ByteArray)⟩, ⟨(⟨#[110, 97, 109, 101]⟩ : ByteArray), (⟨#[97, 32, 98]⟩ : ByteArray)⟩] = some (⟨#[116, 101, 120, 116, 47, 112, 108, 97, 105, 110, 59, 32, 99, 104, 97, 114, 115, 101, 116, 61, 117, 116, 102, 45, 56, 59, 32, 110, 97, 109, 101, 61, 34, 97, 32, 98, 34]⟩ : ByteArray) := by kernel_rfl
  have p5 : header_Write.f [⟨(⟨#[65]⟩ : ByteArray), (⟨#[32, 120, 10, 121, 32]⟩ : ByteArray)⟩, ⟨(⟨#[98, 32, 99]⟩ : ByteArray), (⟨#[]⟩ : ByteArray)⟩] = some (⟨#[65, 58, 32, 120, 32, 121, 10]⟩ : ByteArray) := by kernel_rfl
  have p6 : missiveref09_Same.f 10 [⟨(⟨#[65]⟩ : ByteArray), (⟨#[49, 32, 50]⟩ : ByteArray)⟩, ⟨(⟨#[98]⟩ : ByteArray), (⟨#[]⟩ : ByteArray)⟩] [⟨(⟨#[65]⟩ : ByteArray), (⟨#[49, 32, 50]⟩ : ByteArray)⟩, ⟨(⟨#[98]⟩ : ByteArray), (⟨#[]⟩ : ByteArray)⟩] = some true := by kernel_rfl
  have p7 : missiveref09_Same.f 10 [⟨(⟨#[65]⟩ : ByteArray), (⟨#[49]⟩ : ByteArray)⟩] [⟨(⟨#[65]⟩ : ByteArray), (⟨#[49]⟩ : ByteArray)⟩] = some true := by kernel_rfl
  have p8 : missiveref09_SameParams.f 10 [⟨(⟨#[99, 104, 97, 114, 115, 101, 116]⟩ : ByteArray), (⟨#[117, 116, 102, 45, 56]⟩ : ByteArray)⟩, ⟨(⟨#[110, 97, 109, 101]⟩ : ByteArray), (⟨#[97, 32, 34, 98]⟩ : ByteArray)⟩] [⟨(⟨#[99, 104, 97, 114, 115, 101, 116]⟩ : ByteArray), (⟨#[117, 116, 102, 45, 56]⟩ : ByteArray)⟩, ⟨(⟨#[110, 97, 109, 101]⟩ : ByteArray), (⟨#[97, 32, 34, 98]⟩ : ByteArray)⟩] = some true := by kernel_rfl
  have P1 := Aside0.mk p1
  have P2 := Aside0.mk p2
  have P3 := Aside0.mk p3
  have P4 := Aside0.mk p4
  have P5 := Aside0.mk p5
  have P6 := Aside0.mk p6
  have P7 := Aside0.mk p7
  have P8 := Aside0.mk p8
  clear p1 p2 p3 p4 p5 p6 p7 p8
  go_enter Tryz.func10, Tryz.ntmps10
  go_wp2_with fail
  refine (header_Parse.calls _ _ _ _ P1.out).mono ?_
  rintro e w1 ⟨v1, rfl, ho1, hb1⟩
  have HO1 := Aside0.mk ho1
  have HB1 := Aside0.mk hb1
  clear ho1 hb1
  go_wp2_with fail
  refine (header_Parse.calls _ _ _ _ P2.out).mono ?_
  rintro e w2 ⟨v2, rfl, ho2, hb2⟩
  have HO2 := Aside0.mk ho2
  have HB2 := Aside0.mk hb2
  clear ho2 hb2
  go_wp2_with fail
  refine (header_Params.calls _ _ _ _ P3.out).mono ?_
  rintro e w3 ⟨v3, rfl, ho3, hb3⟩
  have HO3 := Aside0.mk ho3
  have HB3 := Aside0.mk hb3
  clear ho3 hb3
  go_wp2_with fail
  refine (header_Quote.calls _ _ _ _ _ _ (lit_C25 w3 _ (by decide)) (Nat.le_refl _) P4.out).mono ?_
  rintro e w4 ⟨rfl, hb4⟩
  have HB4 := Aside0.mk hb4
  clear hb4
  obtain ⟨A1, c1, rfl⟩ := Kd.R_slice HO1.out
  obtain ⟨A2, c2, rfl⟩ := Kd.R_slice HO2.out
  obtain ⟨A3, c3, rfl⟩ := Kd.R_slice HO3.out
  go_wp2_with fail
  have b24 : Below w2.heap.size w2 w4 := HB3.out.trans (((Below.refl w2.heap.size w3).alloc HB3.out.size _).trans (HB4.out.mono (by rw [World.size_alloc]; have := HB3.out.size; omega)))
  have b14 : Below w1.heap.size w1 w4 := HB2.out.trans (b24.mono HB2.out.size)
  have b34 : Below w3.heap.size w3 w4 := ((Below.refl w3.heap.size w3).alloc (Nat.le_refl _) _).trans (HB4.out.mono (by rw [World.size_alloc]; omega))
  have r1 := Kd.R_reads' HO1.out
  have r2 := Kd.R_reads' HO2.out
  have r3 := Kd.R_reads' HO3.out
  have R1 := Aside0.mk r1
  have R2 := Aside0.mk r2
  have R3 := Aside0.mk r3
  clear r1 r2 r3
  refine (missiveref09_Same.calls 10 _ _ _ _ _ _ _ _ (Kd.C_below (Kd.C_below R1.out.2.2 b14) ((Below.refl _ _).alloc (Nat.le_refl _) _)) R1.out.2.1 (lit_C35 w4 _ (by decide)) (Nat.le_refl _) P6.out).mono ?_
  rintro e w5 ⟨rfl, ⟨n5, rfl⟩⟩
  go_wp2_with fail
  have b45 : Below w4.heap.size w4 ((w4.alloc (Obj.cells (fieldVals [(⟨(⟨#[65]⟩ : ByteArray), (⟨#[49, 32, 50]⟩ : ByteArray)⟩ : S35), (⟨(⟨#[98]⟩ : ByteArray), (⟨#[]⟩ : ByteArray)⟩ : S35)]).toArray 35)).drewN n5) := pw_below_drewN ((Below.refl _ _).alloc (Nat.le_refl _) _) n5
  have hs5 : ((w4.alloc (Obj.cells (fieldVals [(⟨(⟨#[65]⟩ : ByteArray), (⟨#[49, 32, 50]⟩ : ByteArray)⟩ : S35), (⟨(⟨#[98]⟩ : ByteArray), (⟨#[]⟩ : ByteArray)⟩ : S35)]).toArray 35)).drewN n5).heap.size = w4.heap.size + 1 := World.size_alloc _ _
  rw [← hs5]
  generalize ((w4.alloc (Obj.cells (fieldVals [(⟨(⟨#[65]⟩ : ByteArray), (⟨#[49, 32, 50]⟩ : ByteArray)⟩ : S35), (⟨(⟨#[98]⟩ : ByteArray), (⟨#[]⟩ : ByteArray)⟩ : S35)]).toArray 35)).drewN n5) = W5 at b45 hs5 ⊢
  clear hs5
  have b25 : Below w2.heap.size w2 W5 := b24.trans (b45.mono b24.size)
  refine (missiveref09_Same.calls 10 _ _ _ _ _ _ _ _ (Kd.C_below (Kd.C_below R2.out.2.2 b25) ((Below.refl _ _).alloc (Nat.le_refl _) _)) R2.out.2.1 (lit_C35 W5 [(⟨(⟨#[65]⟩ : ByteArray), (⟨#[49]⟩ : ByteArray)⟩ : S35)] (by decide)) (Nat.le_refl _) P7.out).mono ?_
  rintro e w6 ⟨rfl, ⟨n6, rfl⟩⟩
  go_wp2_with fail
  have b56 : Below W5.heap.size W5 ((W5.alloc (Obj.cells (fieldVals [(⟨(⟨#[65]⟩ : ByteArray), (⟨#[49]⟩ : ByteArray)⟩ : S35)]).toArray 35)).drewN n6) := pw_below_drewN ((Below.refl _ _).alloc (Nat.le_refl _) _) n6
  have hs6 : ((W5.alloc (Obj.cells (fieldVals [(⟨(⟨#[65]⟩ : ByteArray), (⟨#[49]⟩ : ByteArray)⟩ : S35)]).toArray 35)).drewN n6).heap.size = W5.heap.size + 1 := World.size_alloc _ _
  rw [← hs6]
  generalize ((W5.alloc (Obj.cells (fieldVals [(⟨(⟨#[65]⟩ : ByteArray), (⟨#[49]⟩ : ByteArray)⟩ : S35)]).toArray 35)).drewN n6) = W6 at b56 hs6 ⊢
  clear hs6
  have b46 : Below w4.heap.size w4 W6 := b45.trans (b56.mono b45.size)
  have b36 : Below w3.heap.size w3 W6 := b34.trans (b46.mono b34.size)
  refine (missiveref09_SameParams.calls 10 _ _ _ _ _ _ _ _ (Kd.C_below (Kd.C_below R3.out.2.2 b36) ((Below.refl _ _).alloc (Nat.le_refl _) _)) R3.out.2.1 (lit_C25 W6 [(⟨(⟨#[99, 104, 97, 114, 115, 101, 116]⟩ : ByteArray), (⟨#[117, 116, 102, 45, 56]⟩ : ByteArray)⟩ : S25), (⟨(⟨#[110, 97, 109, 101]⟩ : ByteArray), (⟨#[97, 32, 34, 98]⟩ : ByteArray)⟩ : S25)] (by decide)) (Nat.le_refl _) P8.out).mono ?_
  rintro e w7 ⟨rfl, ⟨n7, rfl⟩⟩
  go_wp2_with fail
  have b67 : Below W6.heap.size W6 ((W6.alloc (Obj.cells (paramVals [(⟨(⟨#[99, 104, 97, 114, 115, 101, 116]⟩ : ByteArray), (⟨#[117, 116, 102, 45, 56]⟩ : ByteArray)⟩ : S25), (⟨(⟨#[110, 97, 109, 101]⟩ : ByteArray), (⟨#[97, 32, 34, 98]⟩ : ByteArray)⟩ : S25)]).toArray 25)).drewN n7) := pw_below_drewN ((Below.refl _ _).alloc (Nat.le_refl _) _) n7
  have hs7 : ((W6.alloc (Obj.cells (paramVals [(⟨(⟨#[99, 104, 97, 114, 115, 101, 116]⟩ : ByteArray), (⟨#[117, 116, 102, 45, 56]⟩ : ByteArray)⟩ : S25), (⟨(⟨#[110, 97, 109, 101]⟩ : ByteArray), (⟨#[97, 32, 34, 98]⟩ : ByteArray)⟩ : S25)]).toArray 25)).drewN n7).heap.size = W6.heap.size + 1 := World.size_alloc _ _
  rw [← hs7]
  generalize ((W6.alloc (Obj.cells (paramVals [(⟨(⟨#[99, 104, 97, 114, 115, 101, 116]⟩ : ByteArray), (⟨#[117, 116, 102, 45, 56]⟩ : ByteArray)⟩ : S25), (⟨(⟨#[110, 97, 109, 101]⟩ : ByteArray), (⟨#[97, 32, 34, 98]⟩ : ByteArray)⟩ : S25)]).toArray 25)).drewN n7) = W7 at b67 hs7 ⊢
  clear hs7
  refine (header_Write.calls _ _ [(⟨(⟨#[65]⟩ : ByteArray), (⟨#[32, 120, 10, 121, 32]⟩ : ByteArray)⟩ : S35), (⟨(⟨#[98, 32, 99]⟩ : ByteArray), (⟨#[]⟩ : ByteArray)⟩ : S35)] _ _ (lit_C35 W7 [(⟨(⟨#[65]⟩ : ByteArray), (⟨#[32, 120, 10, 121, 32]⟩ : ByteArray)⟩ : S35), (⟨(⟨#[98, 32, 99]⟩ : ByteArray), (⟨#[]⟩ : ByteArray)⟩ : S35)] (by decide)) (Nat.le_refl _) P5.out).mono ?_
  rintro e w8 ⟨rfl, hb8⟩
  have HB8 := Aside0.mk hb8
  clear hb8
  go_wp2_with fail
  go_ret
  refine ⟨rfl, ?_⟩
  have s1 := HB1.out
  have s2 := HB2.out
  have s3 := b34
  have e1 : Below w.heap.size w w4 := s1.trans (((s2.mono s1.size).trans (HB3.out.mono (Nat.le_trans s1.size s2.size))).trans (b34.mono (Nat.le_trans (Nat.le_trans s1.size s2.size) HB3.out.size)))
  have e2 : Below w.heap.size w W7 := e1.trans ((b46.mono e1.size).trans (b67.mono (Nat.le_trans e1.size b46.size)))
  exact (e2.alloc e2.size _).trans (HB8.out.mono (by rw [World.size_alloc]; have := e2.size; omega))
/-- The contract's function: small. -/
def missivelaw09_small.f (k : Nat) : Option Bool := some true
theorem missivelaw09_small.mono (k : Nat) : LeO (missivelaw09_small.f k) (missivelaw09_small.f (k + 1)) := LeO.refl _
theorem missivelaw09_small.calls (k : Nat) (r : Bool) (w : World) (h : missivelaw09_small.f k = some r) :
    Calls Tryz.prog 10 #[] w fun e w' => e = .returned (.bool r) ∧ Below w.heap.size w w' := by
  obtain rfl := Option.some.inj h
  exact small_calls w
theorem small_ev : Ev (fun k => missivelaw09_small.f k) true := Ev.now true
end Go.Proofs.YtieompfmhnpnaaaGreat.H
