/- SlabsNone: the walk. -/
import Derived.Test.YtlknhbcambdccaaJYM
import Derived.Test.YtlknhbcambdccaaJYC
import Derived.Test.YtlknhbcambdccaaJYG
namespace Go.Proofs.Ytlknhbcambdccaa
open Go.RowKit
namespace Sl
open Bu

set_option maxRecDepth 100000 in
set_option maxHeartbeats 8000000 in
theorem none_walk (w : World) (P : Nat) (size order keep : Int) (at_ : Int) :
    Calls Try.prog 7 #[.agg #[.int .u8 (P : Int), .int .i64 size, .int .i64 order, .int .i64 keep], .int .i64 at_] w fun e w' => e = .returned (.bool true) ∧ Below w.heap.size w w' := by
  obtain ⟨Wa, hWa⟩ : ∃ Wa, Wa = w.alloc (.cells #[.int .u8 (P : Int), .int .i64 size, .int .i64 order, .int .i64 keep] 42) := ⟨_, rfl⟩
  obtain ⟨Wb, hWb⟩ : ∃ Wb, Wb = Wa.alloc (.cells #[.pointer none, .int .i64 0, .int .i64 0, .int .i64 0, .slice none 0 0, .int .i64 0] 78) := ⟨_, rfl⟩
  obtain ⟨V1, hV1⟩ : ∃ V1, V1 = Wb.alloc (.cells #[.pointer none, .pointer (some ⟨w.heap.size + 1, 0, none⟩)] 79) := ⟨_, rfl⟩
  have sa : Wa.heap.size = w.heap.size + 1 := by rw [hWa]; simp
  have sb : Wb.heap.size = w.heap.size + 2 := by rw [hWb, World.size_alloc, sa]
  have hb1 : Below w.heap.size w V1 := by rw [hV1, hWb, hWa]; exact ((below_box w _).alloc (by simp) _).alloc (by simp; omega) _
  have hS : V1.heap[w.heap.size]? = some (.cells #[.int .u8 (P : Int), .int .i64 size, .int .i64 order, .int .i64 keep] 42 (0, 0)) := by
    rw [hV1, alloc_old _ _ _ (by omega), hWb, alloc_old _ _ _ (by omega), hWa, heapAlloc, if_pos rfl]
  have hZ : V1.heap[w.heap.size + 1]? = some (.cells #[.pointer none, .int .i64 0, .int .i64 0, .int .i64 0, .slice none 0 0, .int .i64 0] 78 (0, 0)) := by
    rw [hV1, alloc_old _ _ _ (by omega), hWb, heapAlloc, if_pos sa.symm]
  have hA : V1.heap[w.heap.size + 1 + 1]? = some (.cells #[.pointer none, .pointer (some ⟨w.heap.size + 1, 0, none⟩)] 79 (0, 0)) := by
    rw [hV1, heapAlloc, if_pos (by omega)]
  have hV : (((w.alloc (.cells #[.int .u8 (P : Int), .int .i64 size, .int .i64 order, .int .i64 keep] 42)).alloc (.cells #[.pointer none, .int .i64 0, .int .i64 0, .int .i64 0, .slice none 0 0, .int .i64 0] 78)).alloc (.cells #[.pointer none, .pointer (some ⟨w.heap.size + 1, 0, none⟩)] 79)) = V1 := by rw [hV1, hWb, hWa]
  have HV := Lib.hid hV
  obtain ⟨K, hK⟩ : ∃ K, K = w.heap.size + 1 := ⟨_, rfl⟩
  obtain ⟨G, hG⟩ : ∃ G, G = w.heap.size + 1 + 1 := ⟨_, rfl⟩
  have HG := Lib.hid hG
  rw [← hK] at hZ
  rw [← hG, ← hK] at hA
  have HX := Lib.hid (And.intro hb1 (And.intro hS (And.intro hZ hA)))
  have hq : ∀ (w : World) (p : Option Addr), (binOp .eql 22 (.pointer p) (.pointer none)).run Try.prog w = .ok (.bool p.isNone) w := fun w p => run_eql_ptr_nil Try.prog w 22 _ p Try.underlying22
  have hzc : Try.zeroCells86[0]? = some (.bool false) := by kernel_rfl
  have hz0 := zero_size
  have HZ := Lib.hid (And.intro hz0 hzc)
  clear hWa hWb hV1 sa sb hb1 hS hZ hA hV hK hG hz0 hzc
  go_enter Try.func7, Try.ntmps7
  go_wp2_with (fail)
  rw [HV.out, ← HG.out]
  go_loopw [6] (fun i wr => ∃ k : Nat, k ≤ 2 ∧ i = .int .i64 (k : Int) ∧ Below V1.heap.size V1 wr) (fun i _ => 2 - (intOf i).toNat)
  case atStart => exact ⟨0, by omega, rfl, Below.refl _ _⟩
  case round =>
    obtain ⟨k, hk, rfl, hb⟩ := hrel
    have e0 : (0 : Int) ≤ (k : Int) := by omega
    by_cases hlt : k < 2
    · have e1 : (k : Int) < 2 := by omega
      have hkk : IntKind.i64.wrap ((k : Int) + 1) = ((k + 1 : Nat) : Int) := by rw [IntWalk.i64_in _ (by omega)]; rfl
      obtain ⟨S, hZ, hA⟩ := HX.out.2
      have hAr := (hb.block G (lt_of_heap hA)).trans hA
      have hZr := (hb.block K (lt_of_heap hZ)).trans hZ
      obtain ⟨p, hp, hd⟩ : ∃ p, wr.cell? ⟨G, k, none⟩ = some (.pointer p) ∧ Dead wr p := by
        rw [cell_of_row _ _ _ _ _ _ hAr]
        match k, hlt with
        | 0, _ => exact ⟨none, rfl, .inl rfl⟩
        | 1, _ => exact ⟨some ⟨K, 0, none⟩, rfl, .inr ⟨K, rfl, by rw [cell_of_row _ _ _ _ _ _ hZr]; rfl⟩⟩
      obtain ⟨W0, hW0⟩ : ∃ W0, W0 = wr := ⟨_, rfl⟩
      have HD0 := Lib.hid (And.intro hd hb)
      rw [← hW0] at HD0 hp ⊢
      clear hb hd hAr hZr hZ hA S hW0
      have HC0 := Lib.hid (alloc_dead W0 p HD0.out.1)
      go_wp2_with (go_at_call 12; fail)
      refine HC0.out.mono ?_
      rintro _ W1 ⟨rfl, hb⟩
      have HD1 := Lib.hid (And.intro (HD0.out.1.below hb) (below_step HD0.out.2 hb (Nat.le_refl _)))
      clear hb HC0 HD0
      have HC1 := Lib.hid (trim_dead W1 p HD1.out.1)
      go_wp2_with (go_at_call 20; fail)
      refine HC1.out.mono ?_
      rintro _ W2 ⟨rfl, hb⟩
      have HD2 := Lib.hid (And.intro (HD1.out.1.below hb) (below_step HD1.out.2 hb (Nat.le_refl _)))
      clear hb HC1 HD1
      have HC2 := Lib.hid (owner_dead W2 p at_ HD2.out.1)
      go_wp2_with (go_at_call 13; fail)
      refine HC2.out.mono ?_
      rintro _ W3 ⟨rfl, hb⟩
      have HD3 := Lib.hid (And.intro (HD2.out.1.below hb) (below_step HD2.out.2 hb (Nat.le_refl _)))
      clear hb HC2 HD2
      have HC3 := Lib.hid (objects_dead W3 p HD3.out.1)
      go_wp2_with (go_at_call 19; fail)
      refine HC3.out.mono ?_
      rintro _ W4 ⟨rfl, hb⟩
      have HD4 := Lib.hid (And.intro (HD3.out.1.below hb) (below_step HD3.out.2 hb (Nat.le_refl _)))
      clear hb HC3 HD3
      have HC4 := Lib.hid (slabs_dead W4 p HD4.out.1)
      go_wp2_with (go_at_call 14; fail)
      refine HC4.out.mono ?_
      rintro _ W5 ⟨rfl, hb⟩
      have HD5 := Lib.hid (And.intro (HD4.out.1.below hb) (below_step HD4.out.2 hb (Nat.le_refl _)))
      clear hb HC4 HD4
      have HC5 := Lib.hid (capacity_dead W5 p HD5.out.1)
      go_wp2_with (go_at_call 29; fail)
      refine HC5.out.mono ?_
      rintro _ W6 ⟨rfl, hb⟩
      have HD6 := Lib.hid (And.intro (HD5.out.1.below hb) (below_step HD5.out.2 hb (Nat.le_refl _)))
      clear hb HC5 HD5
      have HC6 := Lib.hid (free_dead W6 p at_ HD6.out.1)
      go_wp2_with (go_at_call 11; fail)
      refine HC6.out.mono ?_
      rintro _ W7 ⟨rfl, hb⟩
      have HD7 := Lib.hid (And.intro (HD6.out.1.below hb) (below_step HD6.out.2 hb (Nat.le_refl _)))
      clear hb HC6 HD6
      have HC7 := Lib.hid (save_dead W7 p HD7.out.1)
      go_wp2_with (go_at_call 27; fail)
      refine HC7.out.mono ?_
      rintro _ W8 ⟨rfl, hb⟩
      have HD8 := Lib.hid (And.intro (HD7.out.1.below hb) (below_step HD7.out.2 hb (Nat.le_refl _)))
      clear hb HC7 HD7
      have hsm := sameS_ok W8 0 0 0 none none 0 0 [] ⟨Nat.le_refl _, Nat.zero_le _, fun j x hx => by simp at hx⟩ ⟨Nat.le_refl _, Nat.zero_le _, fun j x hx => by simp at hx⟩
      have HSm := Lib.hid hsm
      clear hsm
      go_wp2_with (go_at_call 28; fail)
      refine HSm.out.mono ?_
      rintro _ W9 ⟨rfl, hb⟩
      have HD9 := Lib.hid (below_step HD8.out.2 hb (Nat.le_refl _))
      clear hb
      go_wp2
      go_roundw
      case rel => exact ⟨k + 1, by omega, by go_num, HD9.out⟩
      case measure => simp [intOf]; omega
    · have e1 : ¬ (k : Int) < 2 := by omega
      have hSr := (hb.block w.heap.size (lt_of_heap HX.out.2.1)).trans HX.out.2.1
      obtain ⟨s0, s1, s2, s3⟩ := four_at hSr
      have HN := Lib.hid (newC_not wr none (isNot_nil wr) size order keep)
      have HJ := Lib.hid (And.intro hb hSr)
      clear hb hSr
      go_wp2_with (go_at_call 16; fail)
      refine HN.out.mono ?_
      rintro _ w' ⟨rfl, rfl⟩
      have hwl : w.heap.size < wr.heap.size := lt_of_heap HJ.out.2
      have h7 : (wr.alloc (.cells Try.zeroCells86 86)).heap[wr.heap.size]? = some (.cells Try.zeroCells86 86 (0, 0)) := by rw [heapAlloc, if_pos rfl]
      have hI : IsNot (wr.alloc (.cells Try.zeroCells86 86)) (some ⟨wr.heap.size, 0, none⟩) := isNot_zero _ _ (by simp) (by
        rw [cell_of_row _ _ _ _ _ _ h7]; exact HZ.out.2)
      have HL := Lib.hid (loadC_not (wr.alloc (.cells Try.zeroCells86 86)) (some ⟨wr.heap.size, 0, none⟩) hI size order keep none 0 0)
      clear h7 hI HN
      have hz0 := HZ.out.1
      go_wp2_with (go_at_call 30; fail)
      refine HL.out.mono ?_
      rintro _ W2 ⟨rfl, hb2⟩
      have HS := Lib.hid (shown_ok W2)
      have H2 := Lib.hid hb2
      clear hb2 HL
      go_wp2_with (go_at_call 17; fail)
      refine HS.out.mono ?_
      rintro _ W3 ⟨rfl, hb3⟩
      have H3 := Lib.hid hb3
      clear hb3 HS
      go_wp2
      go_ret
      have h1 := below_step (below_step HX.out.1 HJ.out.1 (Nat.le_refl _)) (below_box wr (.cells Try.zeroCells86 86)) (Nat.le_refl _)
      exact ⟨rfl, below_step (below_step h1 H2.out (Nat.le_refl _)) H3.out (Nat.le_refl _)⟩
end Sl
end Go.Proofs.Ytlknhbcambdccaa
