/- Peak, Low. Low (out of A8 by renaming). -/
import Derived.Test.YtionocafkaemiaaDoorJA6
import Derived.Test.YtionocafkaemiaaDoorJA3
import Derived.Test.YtionocafkaemiaaDoorJR5
namespace Go.Proofs.YtionocafkaemiaaDoor
open Go.RowKit Go.Lib
namespace Sx
attribute [local irreducible] wpQuiet

/-- What the iterator reads, once it is made. -/
theorem std_new {A : Option Addr} {c : Nat} {L : List Sm} {f t : Int} {V : World} (h : SAt V A c L) : StD A c L f t V.heap.size (V.heap.size + 1) (V.heap.size + 2) (((V.alloc (.cells #[.slice A L.length c] 24)).alloc (.cells #[.int .i64 f] 2)).alloc (.cells #[.int .i64 t] 2)) := by
  have hb : Below V.heap.size V (((V.alloc (.cells #[.slice A L.length c] 24)).alloc (.cells #[.int .i64 f] 2)).alloc (.cells #[.int .i64 t] 2)) := (((Below.refl _ _).alloc (Nat.le_refl _) _).alloc (by simp) _).alloc (by simp; omega) _
  refine ⟨by simp <;> omega, by simp <;> omega, by simp <;> omega, one_at (T := 24) ?_, one_at (T := 2) ?_, one_at (T := 2) ?_, h.below hb (Nat.le_refl _)⟩
  · rw [heapAlloc, if_neg (by simp; omega), heapAlloc, if_neg (by simp), heapAlloc, if_pos rfl]
  · rw [heapAlloc, if_neg (by simp), heapAlloc, if_pos (by simp)]
  · rw [heapAlloc, if_pos (by simp)]
theorem below_std {V : World} (a b c : Obj) : Below V.heap.size V (((V.alloc a).alloc b).alloc c) := (((Below.refl _ _).alloc (Nat.le_refl _) _).alloc (by simp) _).alloc (by simp; omega) _
set_option maxRecDepth 100000 in
set_option maxHeartbeats 4000000 in
theorem peak_ok (A : Option Addr) (c : Nat) (L : List Sm) (f t : Int) (W : World) (hL : SAt W A c L) :
    Calls Tryd.prog 21 #[sv A L.length c, .int .i64 f, .int .i64 t] W fun e w' => e = .returned (.tuple #[.agg #[.int .i64 (extS gt L f t).1.a, .int .i64 (extS gt L f t).1.v], .int .i64 (extS gt L f t).2]) ∧ Below W.heap.size W w' := by
  obtain ⟨k1, k2⟩ := two_boxes W #[.slice A L.length c] #[.int .i64 0, .int .i64 0] 24 49
  have hb : Below W.heap.size W ((W.alloc (.cells #[.slice A L.length c] 24)).alloc (.cells #[.int .i64 0, .int .i64 0] 49)) := (below_box W _).alloc (by simp) _
  have hcm := hL.2.1
  have hlc := hL.1
  unfold maxLen at hcm
  have hAK := fun V (hV : Below W.heap.size W V) => ask_ok A c L f t V (hL.below hV (Nat.le_refl _))
  by_cases hask : askS L f t = 0
  · have hcov := ask_cov.1 hask
    have hx : extS gt L f t = (⟨(extV gt (stepsV L f t)).f, (extV gt (stepsV L f t)).v⟩, 0) := by unfold extS; rw [if_neg (by omega)]
    rw [hx]
    rw [hask] at hAK
    have hEX := fun V (hV : Below W.heap.size W V) => peakx_ok V.heap.size (V.heap.size + 1) (V.heap.size + 2) A c L f t hcov _ (std_new (f := f) (t := t) (hL.below hV (Nat.le_refl _)))
    have HX := Lib.hid (And.intro hb (And.intro k1 (And.intro k2 (And.intro hAK hEX))))
    clear hb k1 k2 hAK hEX hL hask hcov hx
    generalize extV gt (stepsV L f t) = b at *
    go_enter Tryd.func21, Tryd.ntmps21
    go_upto_region 1 with (fail)
    generalize (W.alloc (.cells #[.slice A L.length c] 24)).alloc (.cells #[.int .i64 0, .int .i64 0] 49) = V at *
    have s0 : V.cell? ⟨W.heap.size, 0, none⟩ = some (.slice A L.length c) := one_at HX.out.2.1
    go_upto_region 4 with (go_at_call 40; refine (HX.out.2.2.2.1 _ HX.out.1).mono ?_; rintro e w1 ⟨rfl, hb1⟩)
    replace s0 := cell_keep2 hb1 s0
    have H1 := Lib.hid (And.intro (HX.out.1.trans (hb1.mono HX.out.1.size)) (show w1.heap[W.heap.size + 1]? = some (.cells #[.int .i64 0, .int .i64 0] 49 (0, 0)) by rw [hb1.block _ (lt_of_heap HX.out.2.2.1)]; exact HX.out.2.2.1))
    clear hb1
    go_wp2_with (go_at_call 44; refine (steps_make _ _ _ _ _ _).mono ?_; rintro e w2 ⟨rfl, hw2⟩)
    refine (HX.out.2.2.2.2 _ H1.out.1).mono ?_
    rintro e w3 ⟨rfl, hb3⟩
    have hb4 := (below_std (V := w1) (.cells #[.slice A L.length c] 24) (.cells #[.int .i64 f] 2) (.cells #[.int .i64 t] 2))
    have hb5 := hb4.trans (hb3.mono hb4.size)
    have hrb : w3.heap[W.heap.size + 1]? = some (.cells #[.int .i64 0, .int .i64 0] 49 (0, 0)) := by rw [hb5.block _ (lt_of_heap H1.out.2)]; exact H1.out.2
    have hf : ∀ j, w3.frozen? ⟨W.heap.size + 1, j, none⟩ = false := fun j => by simp [World.frozen?, hrb]
    obtain ⟨r0, r1⟩ := two_at hrb
    have HR := Lib.hid (And.intro hrb (H1.out.1.trans (hb5.mono H1.out.1.size)))
    clear hb3 hb4 hb5 s0
    go_wp2_with (fail)
    refine bodyPost_ret (results_row2 rfl _ _ (W.heap.size + 1) 49 #[.int .i64 b.f, .int .i64 b.v] (0, 0) _ rfl (set2 HR.out.1) Tryd.underlying49 sample_size) rfl ⟨rfl, ?_⟩
    exact below_set2 HR.out.2 (Nat.le_succ _)
  · have hx : extS gt L f t = (⟨0, 0⟩, askS L f t) := by unfold extS; rw [if_pos hask]
    rw [hx]
    have HX := Lib.hid (And.intro hb (And.intro k1 (And.intro k2 hAK)))
    generalize askS L f t = e at *
    clear hb k1 k2 hAK hL hx
    go_enter Tryd.func21, Tryd.ntmps21
    go_upto_region 1 with (fail)
    generalize (W.alloc (.cells #[.slice A L.length c] 24)).alloc (.cells #[.int .i64 0, .int .i64 0] 49) = V at *
    have s0 : V.cell? ⟨W.heap.size, 0, none⟩ = some (.slice A L.length c) := one_at HX.out.2.1
    go_upto_region 2 with (go_at_call 40; refine (HX.out.2.2.2 _ HX.out.1).mono ?_; rintro e w1 ⟨rfl, hb1⟩)
    have hrb : w1.heap[W.heap.size + 1]? = some (.cells #[.int .i64 0, .int .i64 0] 49 (0, 0)) := by rw [hb1.block _ (lt_of_heap HX.out.2.2.1)]; exact HX.out.2.2.1
    have hf : ∀ j, w1.frozen? ⟨W.heap.size + 1, j, none⟩ = false := fun j => by simp [World.frozen?, hrb]
    obtain ⟨r0, r1⟩ := two_at hrb
    have HR := Lib.hid (And.intro hrb (HX.out.1.trans (hb1.mono HX.out.1.size)))
    clear hb1 s0
    go_wp2_with (fail)
    refine bodyPost_ret (results_row2 rfl _ _ (W.heap.size + 1) 49 #[.int .i64 0, .int .i64 0] (0, 0) _ rfl (set2 HR.out.1) Tryd.underlying49 sample_size) rfl ⟨rfl, ?_⟩
    exact below_set2 HR.out.2 (Nat.le_succ _)
end Sx
end Go.Proofs.YtionocafkaemiaaDoor
namespace Go.Proofs.YtionocafkaemiaaDoor
open Go.RowKit Go.Lib
namespace Sx
attribute [local irreducible] wpQuiet
set_option maxRecDepth 100000 in
set_option maxHeartbeats 4000000 in
theorem low_ok (A : Option Addr) (c : Nat) (L : List Sm) (f t : Int) (W : World) (hL : SAt W A c L) :
    Calls Tryd.prog 26 #[sv A L.length c, .int .i64 f, .int .i64 t] W fun e w' => e = .returned (.tuple #[.agg #[.int .i64 (extS lt L f t).1.a, .int .i64 (extS lt L f t).1.v], .int .i64 (extS lt L f t).2]) ∧ Below W.heap.size W w' := by
  obtain ⟨k1, k2⟩ := two_boxes W #[.slice A L.length c] #[.int .i64 0, .int .i64 0] 24 49
  have hb : Below W.heap.size W ((W.alloc (.cells #[.slice A L.length c] 24)).alloc (.cells #[.int .i64 0, .int .i64 0] 49)) := (below_box W _).alloc (by simp) _
  have hcm := hL.2.1
  have hlc := hL.1
  unfold maxLen at hcm
  have hAK := fun V (hV : Below W.heap.size W V) => ask_ok A c L f t V (hL.below hV (Nat.le_refl _))
  by_cases hask : askS L f t = 0
  · have hcov := ask_cov.1 hask
    have hx : extS lt L f t = (⟨(extV lt (stepsV L f t)).f, (extV lt (stepsV L f t)).v⟩, 0) := by unfold extS; rw [if_neg (by omega)]
    rw [hx]
    rw [hask] at hAK
    have hEX := fun V (hV : Below W.heap.size W V) => lowx_ok V.heap.size (V.heap.size + 1) (V.heap.size + 2) A c L f t hcov _ (std_new (f := f) (t := t) (hL.below hV (Nat.le_refl _)))
    have HX := Lib.hid (And.intro hb (And.intro k1 (And.intro k2 (And.intro hAK hEX))))
    clear hb k1 k2 hAK hEX hL hask hcov hx
    generalize extV lt (stepsV L f t) = b at *
    go_enter Tryd.func26, Tryd.ntmps26
    go_upto_region 1 with (fail)
    generalize (W.alloc (.cells #[.slice A L.length c] 24)).alloc (.cells #[.int .i64 0, .int .i64 0] 49) = V at *
    have s0 : V.cell? ⟨W.heap.size, 0, none⟩ = some (.slice A L.length c) := one_at HX.out.2.1
    go_upto_region 4 with (go_at_call 40; refine (HX.out.2.2.2.1 _ HX.out.1).mono ?_; rintro e w1 ⟨rfl, hb1⟩)
    replace s0 := cell_keep2 hb1 s0
    have H1 := Lib.hid (And.intro (HX.out.1.trans (hb1.mono HX.out.1.size)) (show w1.heap[W.heap.size + 1]? = some (.cells #[.int .i64 0, .int .i64 0] 49 (0, 0)) by rw [hb1.block _ (lt_of_heap HX.out.2.2.1)]; exact HX.out.2.2.1))
    clear hb1
    go_wp2_with (go_at_call 44; refine (steps_make _ _ _ _ _ _).mono ?_; rintro e w2 ⟨rfl, hw2⟩)
    refine (HX.out.2.2.2.2 _ H1.out.1).mono ?_
    rintro e w3 ⟨rfl, hb3⟩
    have hb4 := (below_std (V := w1) (.cells #[.slice A L.length c] 24) (.cells #[.int .i64 f] 2) (.cells #[.int .i64 t] 2))
    have hb5 := hb4.trans (hb3.mono hb4.size)
    have hrb : w3.heap[W.heap.size + 1]? = some (.cells #[.int .i64 0, .int .i64 0] 49 (0, 0)) := by rw [hb5.block _ (lt_of_heap H1.out.2)]; exact H1.out.2
    have hf : ∀ j, w3.frozen? ⟨W.heap.size + 1, j, none⟩ = false := fun j => by simp [World.frozen?, hrb]
    obtain ⟨r0, r1⟩ := two_at hrb
    have HR := Lib.hid (And.intro hrb (H1.out.1.trans (hb5.mono H1.out.1.size)))
    clear hb3 hb4 hb5 s0
    go_wp2_with (fail)
    refine bodyPost_ret (results_row2 rfl _ _ (W.heap.size + 1) 49 #[.int .i64 b.f, .int .i64 b.v] (0, 0) _ rfl (set2 HR.out.1) Tryd.underlying49 sample_size) rfl ⟨rfl, ?_⟩
    exact below_set2 HR.out.2 (Nat.le_succ _)
  · have hx : extS lt L f t = (⟨0, 0⟩, askS L f t) := by unfold extS; rw [if_pos hask]
    rw [hx]
    have HX := Lib.hid (And.intro hb (And.intro k1 (And.intro k2 hAK)))
    generalize askS L f t = e at *
    clear hb k1 k2 hAK hL hx
    go_enter Tryd.func26, Tryd.ntmps26
    go_upto_region 1 with (fail)
    generalize (W.alloc (.cells #[.slice A L.length c] 24)).alloc (.cells #[.int .i64 0, .int .i64 0] 49) = V at *
    have s0 : V.cell? ⟨W.heap.size, 0, none⟩ = some (.slice A L.length c) := one_at HX.out.2.1
    go_upto_region 2 with (go_at_call 40; refine (HX.out.2.2.2 _ HX.out.1).mono ?_; rintro e w1 ⟨rfl, hb1⟩)
    have hrb : w1.heap[W.heap.size + 1]? = some (.cells #[.int .i64 0, .int .i64 0] 49 (0, 0)) := by rw [hb1.block _ (lt_of_heap HX.out.2.2.1)]; exact HX.out.2.2.1
    have hf : ∀ j, w1.frozen? ⟨W.heap.size + 1, j, none⟩ = false := fun j => by simp [World.frozen?, hrb]
    obtain ⟨r0, r1⟩ := two_at hrb
    have HR := Lib.hid (And.intro hrb (HX.out.1.trans (hb1.mono HX.out.1.size)))
    clear hb1 s0
    go_wp2_with (fail)
    refine bodyPost_ret (results_row2 rfl _ _ (W.heap.size + 1) 49 #[.int .i64 0, .int .i64 0] (0, 0) _ rfl (set2 HR.out.1) Tryd.underlying49 sample_size) rfl ⟨rfl, ?_⟩
    exact below_set2 HR.out.2 (Nat.le_succ _)
end Sx
end Go.Proofs.YtionocafkaemiaaDoor
