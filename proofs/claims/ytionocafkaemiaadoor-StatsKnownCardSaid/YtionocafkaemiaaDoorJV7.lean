/- StatsKnown: the walk. -/
import Derived.Test.YtionocafkaemiaaDoorJL2
import Derived.Test.YtionocafkaemiaaDoorJA4
import Derived.Test.YtionocafkaemiaaDoorJA8
import Derived.Test.YtionocafkaemiaaDoorJA10
import Derived.Test.YtionocafkaemiaaDoorJA26
namespace Go.Proofs.YtionocafkaemiaaDoor
open Go.RowKit Go.Sort Go.Lib
namespace Sx
attribute [local irreducible] wpQuiet
theorem kn_v19 : valS exL 19 = (5, 0) := by rfl
theorem kn_v20 : valS exL 20 = (8, 0) := by rfl
theorem kn_v9 : valS exL 9 = (0, 4) := by rfl
theorem kn_low : extS lt exL 10 40 = (⟨30, 2⟩, 0) := by rfl
theorem kn_share : shareS exL 10 40 5 = (20, 0) := by rfl
theorem kn_q23 : quantS exL 10 40 2 3 = (5, 0) := by rfl
theorem kn_q13 : quantS exL 10 40 1 3 = (2, 0) := by rfl
theorem kn_env : envS exL 40 1 = ([⟨10, 8⟩], 0) := by rfl
def exA : List Sm := [⟨10, 5⟩, ⟨20, 8⟩, ⟨30, 7⟩]
theorem kn_a30 : addS exL 30 7 = (exA, 0) := by rfl
theorem kn_a40 : addS exL 40 2 = (exL, 0) := by rfl
theorem kn_a29 : addS exL 29 1 = ([], 9) := by rfl
theorem ints2_at (w : World) (T : TypeId) (a b : Int) : IAt (w.alloc (.cells #[.int .i64 a, .int .i64 b] T)) (some ⟨w.heap.size, 0, none⟩) 2 [a, b] := by
  have h := new_at w (.cells #[.int .i64 a, .int .i64 b] T)
  refine ⟨Nat.le_refl _, by unfold maxLen; omega, fun j x hx => ⟨_, 0, rfl, lt_of_heap h, ?_⟩⟩
  rw [cell_of_row _ _ _ _ _ _ h]
  match j, hx with
  | 0, hx => cases hx; rfl
  | 1, hx => cases hx; rfl
  | n + 2, hx => simp at hx
theorem ints6_at (w : World) (T : TypeId) (a b c d e f : Int) : IAt (w.alloc (.cells #[.int .i64 a, .int .i64 b, .int .i64 c, .int .i64 d, .int .i64 e, .int .i64 f] T)) (some ⟨w.heap.size, 0, none⟩) 6 [a, b, c, d, e, f] := by
  have h := new_at w (.cells #[.int .i64 a, .int .i64 b, .int .i64 c, .int .i64 d, .int .i64 e, .int .i64 f] T)
  refine ⟨Nat.le_refl _, by unfold maxLen; omega, fun j x hx => ⟨_, 0, rfl, lt_of_heap h, ?_⟩⟩
  rw [cell_of_row _ _ _ _ _ _ h]
  match j, hx with
  | 0, hx => cases hx; rfl
  | 1, hx => cases hx; rfl
  | 2, hx => cases hx; rfl
  | 3, hx => cases hx; rfl
  | 4, hx => cases hx; rfl
  | 5, hx => cases hx; rfl
  | n + 6, hx => simp at hx
theorem knS2 (A : Option Addr) (V : World) (hM : IAt V A 2 [10, 8]) : Calls Tryd.prog 38 #[.slice A 2 2] V fun e w' => ∃ A' c', e = .returned (sv A' 1 c') ∧ SAt w' A' c' [⟨10, 8⟩] ∧ Below V.heap.size V w' :=
  series_ok A 2 [10, 8] V hM (by decide)
theorem knS6 (A : Option Addr) (V : World) (hM : IAt V A 6 [10, 5, 20, 8, 30, 7]) : Calls Tryd.prog 38 #[.slice A 6 6] V fun e w' => ∃ A' c', e = .returned (sv A' 3 c') ∧ SAt w' A' c' exA ∧ Below V.heap.size V w' :=
  series_ok A 6 [10, 5, 20, 8, 30, 7] V hM (by decide)
theorem knSame1 (A B : Option Addr) (c d : Nat) (V : World) (hA : SAt V A c [⟨10, 8⟩]) (hB : SAt V B d [⟨10, 8⟩]) : Calls Tryd.prog 19 #[sv A 1 c, sv B 1 d] V fun e w' => e = .returned (.bool true) ∧ Below V.heap.size V w' :=
  same_self A B c d [⟨10, 8⟩] V hA hB
theorem knSameA (A B : Option Addr) (c d : Nat) (V : World) (hA : SAt V A c exA) (hB : SAt V B d exA) : Calls Tryd.prog 19 #[sv A 3 c, sv B 3 d] V fun e w' => e = .returned (.bool true) ∧ Below V.heap.size V w' :=
  same_self A B c d exA V hA hB
theorem knSameL (A B : Option Addr) (c d : Nat) (V : World) (hA : SAt V A c exL) (hB : SAt V B d exL) : Calls Tryd.prog 19 #[sv A 3 c, sv B 3 d] V fun e w' => e = .returned (.bool true) ∧ Below V.heap.size V w' :=
  same_self A B c d exL V hA hB
theorem eqlK_self (a b : Int) (w : World) : (binOp .eql 49 (.agg #[.int .i64 a, .int .i64 b]) (.agg #[.int .i64 a, .int .i64 b])).run Tryd.prog w = .ok (.bool true) w := by
  rw [eql_sample]; simp
set_option maxRecDepth 100000 in
set_option maxHeartbeats 8000000 in
theorem known_walk (W : World) (hT : Lib.TabIs Tryd.prog W "internal/strconv.uint64pow10" .u64 Lib.pow10Tab) :
    Calls Tryd.prog 10 #[] W fun e w' => e = .returned (.bool true) ∧ Below W.heap.size W w' := by
  have HT := Lib.hid (Lib.tabBelow_of_tabIs hT)
  have HSh := Lib.hid (fun V (hV : Below W.heap.size W V) => shown_ok V (HT.out V hV))
  clear hT
  go_enter Tryd.func10, Tryd.ntmps10
  go_upto_region 2 with (go_at_call 37; refine (example_ok _).mono ?_; rintro e v0 ⟨g0, rfl, hs0, hb0⟩)
  have hx := hb0.trans ((below_box v0 (.cells #[.slice (some ⟨g0, 0, none⟩) 3 3] 24)).mono hb0.size)
  have hs := hs0.below (below_box v0 (.cells #[.slice (some ⟨g0, 0, none⟩) 3 3] 24)) (Nat.le_refl _)
  have z1 := new_at v0 (.cells #[.slice (some ⟨g0, 0, none⟩) 3 3] 24)
  obtain ⟨a1, ha1⟩ : ∃ a, a = v0.heap.size := ⟨_, rfl⟩
  rw [← ha1] at z1 ⊢
  generalize v0.alloc (.cells #[.slice (some ⟨g0, 0, none⟩) 3 3] 24) = V0 at *
  have x1 := one_at z1
  have HW := Lib.hid (And.intro hx hs)
  clear hs0 hb0 hx hs ha1 z1
  have HV19 := Lib.hid (fun V (hs : SAt V (some ⟨g0, 0, none⟩) 3 exL) => value_ok (some ⟨g0, 0, none⟩) 3 exL 19 V hs)
  rw [kn_v19] at HV19
  have HV20 := Lib.hid (fun V (hs : SAt V (some ⟨g0, 0, none⟩) 3 exL) => value_ok (some ⟨g0, 0, none⟩) 3 exL 20 V hs)
  rw [kn_v20] at HV20
  have HV9 := Lib.hid (fun V (hs : SAt V (some ⟨g0, 0, none⟩) 3 exL) => value_ok (some ⟨g0, 0, none⟩) 3 exL 9 V hs)
  rw [kn_v9] at HV9
  have HLow := Lib.hid (fun V (hs : SAt V (some ⟨g0, 0, none⟩) 3 exL) => low_ok (some ⟨g0, 0, none⟩) 3 exL 10 40 V hs)
  rw [kn_low] at HLow
  have HSha := Lib.hid (fun V (hs : SAt V (some ⟨g0, 0, none⟩) 3 exL) => share_ok (some ⟨g0, 0, none⟩) 3 exL 10 40 5 V hs)
  rw [kn_share] at HSha
  have HQ23 := Lib.hid (fun V (hs : SAt V (some ⟨g0, 0, none⟩) 3 exL) => quant_ok2 (some ⟨g0, 0, none⟩) 3 exL 10 40 2 3 V hs)
  rw [kn_q23] at HQ23
  have HQ13 := Lib.hid (fun V (hs : SAt V (some ⟨g0, 0, none⟩) 3 exL) => quant_ok2 (some ⟨g0, 0, none⟩) 3 exL 10 40 1 3 V hs)
  rw [kn_q13] at HQ13
  have HEnv := Lib.hid (fun V (hs : SAt V (some ⟨g0, 0, none⟩) 3 exL) => env_ok (some ⟨g0, 0, none⟩) 3 exL 40 1 V hs)
  rw [kn_env] at HEnv
  have HA30 : Hid (∀ V, SAt V (some ⟨g0, 0, none⟩) 3 exL → Calls Tryd.prog 32 #[sv (some ⟨g0, 0, none⟩) 3 3, .int .i64 30, .int .i64 7] V fun e w' => ∃ A' c', e = .returned (.tuple #[sv A' 3 c', .int .i64 0]) ∧ SAt w' A' c' exA ∧ Below V.heap.size V w') := Lib.hid (fun V hs => by
    have h := add_ok (some ⟨g0, 0, none⟩) 3 exL 30 7 V hs (fun h => by cases h)
    unfold AddR at h
    rw [kn_a30] at h
    exact h)
  have HA40 : Hid (∀ V, SAt V (some ⟨g0, 0, none⟩) 3 exL → Calls Tryd.prog 32 #[sv (some ⟨g0, 0, none⟩) 3 3, .int .i64 40, .int .i64 2] V fun e w' => ∃ A' c', e = .returned (.tuple #[sv A' 3 c', .int .i64 0]) ∧ SAt w' A' c' exL ∧ Below V.heap.size V w') := Lib.hid (fun V hs => by
    have h := add_ok (some ⟨g0, 0, none⟩) 3 exL 40 2 V hs (fun h => by cases h)
    unfold AddR at h
    rw [kn_a40] at h
    exact h)
  have HA29 : Hid (∀ V, SAt V (some ⟨g0, 0, none⟩) 3 exL → Calls Tryd.prog 32 #[sv (some ⟨g0, 0, none⟩) 3 3, .int .i64 29, .int .i64 1] V fun e w' => ∃ A' c', e = .returned (.tuple #[sv A' 0 c', .int .i64 9]) ∧ SAt w' A' c' [] ∧ Below V.heap.size V w') := Lib.hid (fun V hs => by
    have h := add_ok (some ⟨g0, 0, none⟩) 3 exL 29 1 V hs (fun h => by cases h)
    unfold AddR at h
    rw [kn_a29] at h
    exact h)
  go_upto_region 3 with (go_at_call 34; refine (HV19.out _ HW.out.2).mono ?_; rintro e v1 ⟨rfl, hb⟩)
  replace x1 := cell_keep2 hb x1
  replace HW := Lib.hid (And.intro (HW.out.1.trans (hb.mono HW.out.1.size)) (HW.out.2.below hb (Nat.le_refl _)))
  clear hb
  go_upto_region 4 with (go_at_call 34; refine (HV20.out _ HW.out.2).mono ?_; rintro e v2 ⟨rfl, hb⟩)
  replace x1 := cell_keep2 hb x1
  replace HW := Lib.hid (And.intro (HW.out.1.trans (hb.mono HW.out.1.size)) (HW.out.2.below hb (Nat.le_refl _)))
  clear hb
  go_upto_region 5 with (go_at_call 34; refine (HV9.out _ HW.out.2).mono ?_; rintro e v3 ⟨rfl, hb⟩)
  replace x1 := cell_keep2 hb x1
  replace HW := Lib.hid (And.intro (HW.out.1.trans (hb.mono HW.out.1.size)) (HW.out.2.below hb (Nat.le_refl _)))
  clear hb
  go_upto_region 6 with (go_at_call 26; refine (HLow.out _ HW.out.2).mono ?_; rintro e v4 ⟨rfl, hb⟩)
  have hx := hb.trans ((below_box v4 (.cells #[.int .i64 30, .int .i64 2] 49)).mono hb.size)
  have hz := new_at v4 (.cells #[.int .i64 30, .int .i64 2] 49)
  obtain ⟨a8, ha8⟩ : ∃ a, a = v4.heap.size := ⟨_, rfl⟩
  rw [← ha8] at hz ⊢
  generalize v4.alloc (.cells #[.int .i64 30, .int .i64 2] 49) = V4 at *
  replace x1 := cell_keep2 hx x1
  replace HW := Lib.hid (And.intro (HW.out.1.trans (hx.mono HW.out.1.size)) (HW.out.2.below hx (Nat.le_refl _)))
  obtain ⟨x8, y8⟩ := two_at hz
  clear hx hb hz ha8
  go_upto_region 7 with (go_at_call 28; refine (HSha.out _ HW.out.2).mono ?_; rintro e v5 ⟨rfl, hb⟩)
  replace x1 := cell_keep2 hb x1
  replace x8 := cell_keep2 hb x8
  replace y8 := cell_keep2 hb y8
  replace HW := Lib.hid (And.intro (HW.out.1.trans (hb.mono HW.out.1.size)) (HW.out.2.below hb (Nat.le_refl _)))
  clear hb
  go_upto_region 8 with (go_at_call 14; refine (HQ23.out _ HW.out.2).mono ?_; rintro e v6 ⟨rfl, hb⟩)
  replace x1 := cell_keep2 hb x1
  replace x8 := cell_keep2 hb x8
  replace y8 := cell_keep2 hb y8
  replace HW := Lib.hid (And.intro (HW.out.1.trans (hb.mono HW.out.1.size)) (HW.out.2.below hb (Nat.le_refl _)))
  clear hb
  go_upto_region 9 with (go_at_call 14; refine (HQ13.out _ HW.out.2).mono ?_; rintro e v7 ⟨rfl, hb⟩)
  replace x1 := cell_keep2 hb x1
  replace x8 := cell_keep2 hb x8
  replace y8 := cell_keep2 hb y8
  replace HW := Lib.hid (And.intro (HW.out.1.trans (hb.mono HW.out.1.size)) (HW.out.2.below hb (Nat.le_refl _)))
  clear hb
  go_upto_region 10 with (go_at_call 17; refine (HEnv.out _ HW.out.2).mono ?_; rintro e v8 ⟨A16, c16, rfl, hsn, hb⟩)
  have hx := hb.trans ((below_box v8 (.cells #[.slice A16 1 c16] 24)).mono hb.size)
  have hz := new_at v8 (.cells #[.slice A16 1 c16] 24)
  replace hsn := hsn.below (below_box v8 (.cells #[.slice A16 1 c16] 24)) (Nat.le_refl _)
  obtain ⟨a16, ha16⟩ : ∃ a, a = v8.heap.size := ⟨_, rfl⟩
  rw [← ha16] at hz ⊢
  generalize v8.alloc (.cells #[.slice A16 1 c16] 24) = V8 at *
  replace x1 := cell_keep2 hx x1
  replace x8 := cell_keep2 hx x8
  replace y8 := cell_keep2 hx y8
  replace HW := Lib.hid (And.intro (HW.out.1.trans (hx.mono HW.out.1.size)) (HW.out.2.below hx (Nat.le_refl _)))
  have x16 := one_at hz
  have HA16 := Lib.hid hsn
  clear hx hb hz ha16 hsn
  go_upto_region 11 with (go_at_call 32; refine (HA30.out _ HW.out.2).mono ?_; rintro e v9 ⟨A18, c18, rfl, hsn, hb⟩)
  have hx := hb.trans ((below_box v9 (.cells #[.slice A18 3 c18] 24)).mono hb.size)
  have hz := new_at v9 (.cells #[.slice A18 3 c18] 24)
  replace hsn := hsn.below (below_box v9 (.cells #[.slice A18 3 c18] 24)) (Nat.le_refl _)
  obtain ⟨a18, ha18⟩ : ∃ a, a = v9.heap.size := ⟨_, rfl⟩
  rw [← ha18] at hz ⊢
  generalize v9.alloc (.cells #[.slice A18 3 c18] 24) = V9 at *
  replace x1 := cell_keep2 hx x1
  replace x8 := cell_keep2 hx x8
  replace y8 := cell_keep2 hx y8
  replace x16 := cell_keep2 hx x16
  replace HA16 := Lib.hid (HA16.out.below hx (Nat.le_refl _))
  replace HW := Lib.hid (And.intro (HW.out.1.trans (hx.mono HW.out.1.size)) (HW.out.2.below hx (Nat.le_refl _)))
  have x18 := one_at hz
  have HA18 := Lib.hid hsn
  clear hx hb hz ha18 hsn
  go_upto_region 12 with (go_at_call 32; refine (HA40.out _ HW.out.2).mono ?_; rintro e v10 ⟨A20, c20, rfl, hsn, hb⟩)
  have hx := hb.trans ((below_box v10 (.cells #[.slice A20 3 c20] 24)).mono hb.size)
  have hz := new_at v10 (.cells #[.slice A20 3 c20] 24)
  replace hsn := hsn.below (below_box v10 (.cells #[.slice A20 3 c20] 24)) (Nat.le_refl _)
  obtain ⟨a20, ha20⟩ : ∃ a, a = v10.heap.size := ⟨_, rfl⟩
  rw [← ha20] at hz ⊢
  generalize v10.alloc (.cells #[.slice A20 3 c20] 24) = V10 at *
  replace x1 := cell_keep2 hx x1
  replace x8 := cell_keep2 hx x8
  replace y8 := cell_keep2 hx y8
  replace x16 := cell_keep2 hx x16
  replace x18 := cell_keep2 hx x18
  replace HA16 := Lib.hid (HA16.out.below hx (Nat.le_refl _))
  replace HA18 := Lib.hid (HA18.out.below hx (Nat.le_refl _))
  replace HW := Lib.hid (And.intro (HW.out.1.trans (hx.mono HW.out.1.size)) (HW.out.2.below hx (Nat.le_refl _)))
  have x20 := one_at hz
  have HA20 := Lib.hid hsn
  clear hx hb hz ha20 hsn
  go_upto_region 13 with (go_at_call 32; refine (HA29.out _ HW.out.2).mono ?_; rintro e v11 ⟨A22, c22, rfl, hsn, hb⟩)
  have hx := hb.trans ((below_box v11 (.cells #[.slice A22 0 c22] 24)).mono hb.size)
  have hz := new_at v11 (.cells #[.slice A22 0 c22] 24)
  replace hsn := hsn.below (below_box v11 (.cells #[.slice A22 0 c22] 24)) (Nat.le_refl _)
  obtain ⟨a22, ha22⟩ : ∃ a, a = v11.heap.size := ⟨_, rfl⟩
  rw [← ha22] at hz ⊢
  generalize v11.alloc (.cells #[.slice A22 0 c22] 24) = V11 at *
  replace x1 := cell_keep2 hx x1
  replace x8 := cell_keep2 hx x8
  replace y8 := cell_keep2 hx y8
  replace x16 := cell_keep2 hx x16
  replace x18 := cell_keep2 hx x18
  replace x20 := cell_keep2 hx x20
  replace HA16 := Lib.hid (HA16.out.below hx (Nat.le_refl _))
  replace HA18 := Lib.hid (HA18.out.below hx (Nat.le_refl _))
  replace HA20 := Lib.hid (HA20.out.below hx (Nat.le_refl _))
  replace HW := Lib.hid (And.intro (HW.out.1.trans (hx.mono HW.out.1.size)) (HW.out.2.below hx (Nat.le_refl _)))
  have x22 := one_at hz
  clear hx hb hz ha22 hsn
  go_upto_region 15 with (fail)
  have hS2 : ∀ V, Below V11.heap.size V11 V → Below V11.heap.size V11 V ∧ V.cell? ⟨a1, 0, none⟩ = some (.slice (some ⟨g0, 0, none⟩) 3 3) ∧ V.cell? ⟨a8, 0, none⟩ = some (.int .i64 30) ∧ V.cell? ⟨a8, 1, none⟩ = some (.int .i64 2) ∧ V.cell? ⟨a16, 0, none⟩ = some (.slice A16 1 c16) ∧ V.cell? ⟨a18, 0, none⟩ = some (.slice A18 3 c18) ∧ V.cell? ⟨a20, 0, none⟩ = some (.slice A20 3 c20) := fun V hV => ⟨hV, cell_keep2 hV x1, cell_keep2 hV x8, cell_keep2 hV y8, cell_keep2 hV x16, cell_keep2 hV x18, cell_keep2 hV x20⟩
  have HS2 := Lib.hid hS2
  have HSa := Lib.hid (fun V A c (hV : Below V11.heap.size V11 V) (h : SAt V A c [⟨10, 8⟩]) => knSame1 A16 A c16 c V (HA16.out.below hV (Nat.le_refl _)) h)
  have HSb := Lib.hid (fun V A c (hV : Below V11.heap.size V11 V) (h : SAt V A c exA) => knSameA A18 A c18 c V (HA18.out.below hV (Nat.le_refl _)) h)
  have HSc := Lib.hid (fun V (hV : Below V11.heap.size V11 V) => knSameL A20 (some ⟨g0, 0, none⟩) c20 3 V (HA20.out.below hV (Nat.le_refl _)) (HW.out.2.below hV (Nat.le_refl _)))
  have HSD := Lib.hid (fun V (hV : Below V11.heap.size V11 V) => HSh.out V (HW.out.1.trans (hV.mono HW.out.1.size)))
  have HSE := Lib.hid (knS2 (some ⟨V11.heap.size, 0, none⟩) (V11.alloc (.cells #[.int .i64 10, .int .i64 8] 2)).drew (ints2_at V11 _ 10 8))
  have HBX := Lib.hid (below_drew (below_box V11 (.cells #[.int .i64 10, .int .i64 8] 2)))
  have s1 := hS2 V11.drew (below_drew (Below.refl _ _))
  have q2 := fun w => eqlK_self 30 2 w
  clear hS2 HV19 HV20 HV9 HLow HSha HQ23 HQ13 HEnv HA30 HA40 HA29 HSh HA16 HA18 HA20
  go_region_held3 (fun V => Below V11.heap.size V11 V ∧ V.cell? ⟨a1, 0, none⟩ = some (.slice (some ⟨g0, 0, none⟩) 3 3) ∧ V.cell? ⟨a8, 0, none⟩ = some (.int .i64 30) ∧ V.cell? ⟨a8, 1, none⟩ = some (.int .i64 2) ∧ V.cell? ⟨a16, 0, none⟩ = some (.slice A16 1 c16) ∧ V.cell? ⟨a18, 0, none⟩ = some (.slice A18 3 c18) ∧ V.cell? ⟨a20, 0, none⟩ = some (.slice A20 3 c20))
    (first | assumption | exact HS2.out _ HBX.out | exact Sa | exact Sb | exact Sc | exact Sd | exact Se | exact Sf | exact HS2.out _ HB6.out)
    (first | (go_at_call 38; ((with_reducible refine HSE.out.mono ?_); rintro e wa ⟨Aa, ca, rfl, hsa, hb⟩; have hrun := HBX.out.trans (hb.mono HBX.out.size); have Sa := HS2.out _ hrun; clear hb)) | (go_at_call 19; ((with_reducible refine (HSa.out _ _ _ hrun hsa).mono ?_); rintro e wb ⟨rfl, hb⟩; replace hrun := hrun.trans (hb.mono hrun.size); have Sb := HS2.out _ hrun; clear hb; have HB6 := Lib.hid (hrun.trans ((below_box wb (.cells #[.int .i64 10, .int .i64 5, .int .i64 20, .int .i64 8, .int .i64 30, .int .i64 7] 2)).mono hrun.size)); have HSE6 := Lib.hid (knS6 (some ⟨wb.heap.size, 0, none⟩) (wb.alloc (.cells #[.int .i64 10, .int .i64 5, .int .i64 20, .int .i64 8, .int .i64 30, .int .i64 7] 2)) (ints6_at wb _ 10 5 20 8 30 7)))) | (go_at_call 38; ((with_reducible refine HSE6.out.mono ?_); rintro e wc ⟨Ac, cc, rfl, hsc, hb⟩; replace hrun := HB6.out.trans (hb.mono HB6.out.size); have Sc := HS2.out _ hrun; clear hb)) | (go_at_call 19; ((with_reducible refine (HSb.out _ _ _ hrun hsc).mono ?_); rintro e wd ⟨rfl, hb⟩; replace hrun := hrun.trans (hb.mono hrun.size); have Sd := HS2.out _ hrun; clear hb)) | (go_at_call 19; ((with_reducible refine (HSc.out _ hrun).mono ?_); rintro e we ⟨rfl, hb⟩; replace hrun := hrun.trans (hb.mono hrun.size); have Se := HS2.out _ hrun; clear hb)) | (go_at_call 11; ((with_reducible refine (HSD.out _ hrun).mono ?_); rintro e wf ⟨rfl, hb⟩; replace hrun := hrun.trans (hb.mono hrun.size); have Sf := HS2.out _ hrun; clear hb)))
  all_goals
    have HF := Lib.hid (HW.out.1.trans (hrun.mono HW.out.1.size))
    go_wp2_with (fail)
    go_ret
    exact ⟨rfl, HF.out⟩
end Sx
end Go.Proofs.YtionocafkaemiaaDoor
