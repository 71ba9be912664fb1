/- Area. -/
import Derived.Test.YtionocafkaemiaaDoorJA13
import Derived.Test.YtionocafkaemiaaDoorK4
namespace Go.Proofs.YtionocafkaemiaaDoor
open Go.RowKit Go.Lib
namespace Sx
attribute [local irreducible] wpQuiet

set_option maxRecDepth 100000 in
set_option maxHeartbeats 4000000 in
theorem Area_ok (A : Option Addr) (c : Nat) (L : List Sm) (f t : Int) (W : World) (hL : SAt W A c L) :
    Calls Tryd.prog 12 #[sv A L.length c, .int .i64 f, .int .i64 t] W fun e w' => e = .returned (.tuple #[.agg #[.int .i64 (areaS L f t).1.h, .int .i64 (areaS L f t).1.l], .int .i64 (areaS L f t).2]) ∧ Below W.heap.size W w' := by
  obtain ⟨k1, k2⟩ := two_boxes W #[.slice A L.length c] #[.int .i64 0, .int .i64 0] 24 31
  have hb : Below W.heap.size W ((W.alloc (.cells #[.slice A L.length c] 24)).alloc (.cells #[.int .i64 0, .int .i64 0] 31)) := (below_box W _).alloc (by simp) _
  have hAK := fun V (hV : Below W.heap.size W V) => ask_ok A c L f t V (hL.below hV (Nat.le_refl _))
  by_cases hask : askS L f t = 0
  · have hcov := ask_cov.1 hask
    have hx : areaS L f t = (areaV (stepsV L f t), 0) := by unfold areaS; rw [if_neg (by omega)]
    have hAR := fun V (hV : Below W.heap.size W V) => area_ok2 A c L f t hcov V (hL.below hV (Nat.le_refl _))
    rw [hask] at hAK
    rw [hx]
    have HX := Lib.hid (And.intro hb (And.intro k1 (And.intro k2 (And.intro hAK hAR))))
    generalize areaV (stepsV L f t) = a at *
    clear hb k1 k2 hAK hL hask hcov hx hAR
    go_enter Tryd.func12, Tryd.ntmps12
    go_upto_region 1 with (fail)
    generalize (W.alloc (.cells #[.slice A L.length c] 24)).alloc (.cells #[.int .i64 0, .int .i64 0] 31) = V at *
    have s0 : V.cell? ⟨W.heap.size, 0, none⟩ = some (.slice A L.length c) := one_at HX.out.2.1
    go_upto_region 4 with (go_at_call 40; refine (HX.out.2.2.2.1 _ HX.out.1).mono ?_; rintro e w1 ⟨rfl, hb1⟩; replace s0 := cell_keep2 hb1 s0; have hW1 := HX.out.1.trans (hb1.mono HX.out.1.size); have H1 := Lib.hid (And.intro hb1 hW1); clear hb1 hW1)
    go_wp2_with (go_at_call 41; refine (HX.out.2.2.2.2 _ H1.out.2).mono ?_; rintro e w2 ⟨rfl, hb2⟩; have hrb : w2.heap[W.heap.size + 1]? = some (.cells #[.int .i64 0, .int .i64 0] 31 (0, 0)) := (by have h1 := (H1.out.1.block _ (lt_of_heap HX.out.2.2.1)).trans HX.out.2.2.1; exact (hb2.block _ (lt_of_heap h1)).trans h1); have hf : ∀ j, w2.frozen? ⟨W.heap.size + 1, j, none⟩ = false := (fun j => by simp [World.frozen?, hrb]); obtain ⟨r0, r1⟩ := two_at hrb; have HR := Lib.hid (And.intro hrb (H1.out.2.trans (hb2.mono H1.out.2.size))); clear hb2)
    refine bodyPost_ret (results_row2 rfl _ _ (W.heap.size + 1) 31 #[.int .i64 a.h, .int .i64 a.l] (0, 0) _ rfl (set2 HR.out.1) Tryd.underlying31 area_sz) rfl ⟨rfl, ?_⟩
    exact below_set2 HR.out.2 (Nat.le_succ _)
  · have hx : areaS L f t = (⟨0, 0⟩, askS L f t) := by unfold areaS; rw [if_pos hask]
    rw [hx]
    have HX := Lib.hid (And.intro hb (And.intro k1 (And.intro k2 hAK)))
    generalize askS L f t = e at *
    clear hb k1 k2 hAK hL hx
    go_enter Tryd.func12, Tryd.ntmps12
    go_upto_region 1 with (fail)
    generalize (W.alloc (.cells #[.slice A L.length c] 24)).alloc (.cells #[.int .i64 0, .int .i64 0] 31) = V at *
    have s0 : V.cell? ⟨W.heap.size, 0, none⟩ = some (.slice A L.length c) := one_at HX.out.2.1
    go_upto_region 2 with (go_at_call 40; refine (HX.out.2.2.2 _ HX.out.1).mono ?_; rintro e w1 ⟨rfl, hb1⟩)
    have hrb : w1.heap[W.heap.size + 1]? = some (.cells #[.int .i64 0, .int .i64 0] 31 (0, 0)) := by rw [hb1.block _ (lt_of_heap HX.out.2.2.1)]; exact HX.out.2.2.1
    have hf : ∀ j, w1.frozen? ⟨W.heap.size + 1, j, none⟩ = false := fun j => by simp [World.frozen?, hrb]
    obtain ⟨r0, r1⟩ := two_at hrb
    have HR := Lib.hid (And.intro hrb (HX.out.1.trans (hb1.mono HX.out.1.size)))
    clear hb1 s0
    go_wp2_with (fail)
    refine bodyPost_ret (results_row2 rfl _ _ (W.heap.size + 1) 31 #[.int .i64 0, .int .i64 0] (0, 0) _ rfl (set2 HR.out.1) Tryd.underlying31 area_sz) rfl ⟨rfl, ?_⟩
    exact below_set2 HR.out.2 (Nat.le_succ _)
end Sx
end Go.Proofs.YtionocafkaemiaaDoor
