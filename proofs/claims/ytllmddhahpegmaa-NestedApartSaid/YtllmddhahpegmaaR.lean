/- awake, and the statement NestedKnown's walk. -/
import Derived.Test.YtllmddhahpegmaaQ
namespace Go.Proofs.Ytllmddhahpegmaa
open Go.RowKit
namespace Ne

theorem owns_t4_25 : ∀ k i, Owns t4 25 k i → (k : Int) = 2 ∧ i = -1 := by
  rintro k i ⟨n, hk, h1, h2, rfl, hx⟩
  match k with
  | 0 =>
    simp [t4] at hk; subst hk
    exact absurd (hx ⟨16, 30, 1⟩ (by simp [fidx, hasByte, List.findIdx_cons]) (by simp [fidx, hasByte, List.findIdx_cons])) (by simp)
  | 1 =>
    simp [t4] at hk; subst hk
    exact absurd (hx ⟨21, 10, 2⟩ (by simp [fidx, hasByte, List.findIdx_cons]) (by simp [fidx, hasByte, List.findIdx_cons])) (by simp)
  | 2 =>
    simp [t4] at hk; subst hk
    exact ⟨rfl, by simp [fidx]⟩
  | k + 3 => simp [t4] at hk

theorem a1 : roomOf t4 0 = (54, 0) := by kernel_rfl
theorem a2 : roomOf t4 1 = (15, 0) := by kernel_rfl
theorem a3 : alloc t4 2 11 1 = (t4, 0, 5) := by kernel_rfl

set_option maxRecDepth 100000 in
set_option maxHeartbeats 1000000 in
theorem awake_ok (w : World) : Calls Try.prog 10 #[] w fun e w' => e = .returned (.bool true) ∧ Below w.heap.size w w' := by
  go_enter Try.func10, Try.ntmps10
  go_wp2_with (go_at_call 15; fail)
  refine (hundred_ok _).mono ?_
  rintro e w1 ⟨own1, t, rfl, H1⟩
  go_wp2_with (go_at_call 21; fail)
  refine (step_room H1 0 a1).mono ?_
  rintro e w2 ⟨own2, rfl, H2⟩
  go_wp2_with (go_at_call 21; fail)
  refine (step_room H2 1 a2).mono ?_
  rintro e w3 ⟨own3, rfl, H3⟩
  go_wp2_with (go_at_call 16; fail)
  refine (step_alloc H3 2 11 1 a3).mono ?_
  rintro e w4 ⟨own4, rfl, H4⟩
  go_wp2_with (go_at_call 14; fail)
  refine (step_owner H4 25 rfl (by decide) owns_t4_25).mono ?_
  rintro e w5 ⟨own5, rfl, H5⟩
  go_wp2
  go_ret
  exact ⟨rfl, H5.below⟩

def t5 : Tr := [some ⟨-1, 0, 100, [⟨0, 10, -1⟩, ⟨16, 30, 1⟩, ⟨46, 54, -1⟩]⟩, some ⟨0, 16, 30, [⟨16, 5, -1⟩, ⟨21, 10, 2⟩]⟩, some ⟨1, 21, 10, []⟩]
def t6 : Tr := [some ⟨-1, 0, 100, [⟨0, 10, -1⟩, ⟨16, 30, -2⟩, ⟨46, 54, -1⟩]⟩]
def t7 : Tr := [some ⟨-1, 0, 100, [⟨0, 10, -1⟩]⟩]

theorem big5 : Big t5 3 := by
  refine ⟨fun i => min i 2, 2, ⟨fun i => Nat.min_le_right _ _, fun i n hi x hx h0 => ?_⟩, by omega⟩
  match i with
  | 0 =>
    simp [t5] at hi; subst hi
    simp at hx
    rcases hx with rfl | rfl | rfl <;> simp at h0 ⊢
  | 1 =>
    simp [t5] at hi; subst hi
    simp at hx
    rcases hx with rfl | rfl <;> simp at h0 ⊢
  | 2 => simp [t5] at hi; subst hi; simp at hx
  | k + 3 => simp [t5] at hi
theorem big6 : Big t6 1 := by
  refine ⟨fun _ => 0, 0, ⟨fun i => Nat.le_refl _, fun i n hi x hx h0 => ?_⟩, by omega⟩
  match i with
  | 0 =>
    simp [t6] at hi; subst hi
    simp at hx
    rcases hx with rfl | rfl | rfl <;> simp at h0
  | k + 1 => simp [t6] at hi
theorem big7 : Big t7 1 := by
  refine ⟨fun _ => 0, 0, ⟨fun i => Nat.le_refl _, fun i n hi x hx h0 => ?_⟩, by omega⟩
  match i with
  | 0 =>
    simp [t7] at hi; subst hi
    simp at hx
    subst hx; simp at h0
  | k + 1 => simp [t7] at hi

theorem owns_t5_12 : ∀ k i, Owns t5 12 k i → (k : Int) = 0 ∧ i = -1 := by
  rintro k i ⟨n, hk, h1, h2, rfl, hx⟩
  match k with
  | 0 =>
    simp [t5] at hk; subst hk
    exact ⟨rfl, by simp [fidx, hasByte, List.findIdx_cons]⟩
  | 1 => simp [t5] at hk; subst hk; simp at h1
  | 2 => simp [t5] at hk; subst hk; simp at h1
  | k + 3 => simp [t5] at hk
theorem owns_t6_25 : ∀ k i, Owns t6 25 k i → (k : Int) = 0 ∧ i = 1 := by
  rintro k i ⟨n, hk, h1, h2, rfl, hx⟩
  match k with
  | 0 =>
    simp [t6] at hk; subst hk
    exact ⟨rfl, by simp [fidx, hasByte, List.findIdx_cons]⟩
  | k + 1 => simp [t6] at hk

theorem k1 : alloc t4 0 60 1 = (t4, 0, 5) := by kernel_rfl
theorem k2 : alloc t4 0 54 1 = (t5, 46, 0) := by kernel_rfl
theorem k3 : liveIn t5 3 0 = (69, 0) := by kernel_rfl
theorem k4 : stopAt t5 3 1 = (t6, 0) := by kernel_rfl
theorem k5 : mark t6 0 = (3, 0) := by kernel_rfl
theorem k6 : alloc t6 0 1 1 = (t6, 0, 5) := by kernel_rfl
theorem k7 : rewindTo t6 1 0 2 = (t7, 0) := by kernel_rfl
theorem k8 : mark t7 0 = (1, 0) := by kernel_rfl
theorem k9 : roomOf t7 0 = (90, 0) := by kernel_rfl
theorem k10 : alloc t7 1 1 1 = (t7, 0, 4) := by kernel_rfl
theorem k11 : stopAt t7 1 0 = (t7, 2) := by kernel_rfl

set_option maxRecDepth 100000 in
set_option maxHeartbeats 2000000 in
theorem known_ok (w : World) : Calls Try.prog 4 #[] w fun e w' => e = .returned (.bool true) ∧ Below w.heap.size w w' := by
  go_enter Try.func4, Try.ntmps4
  go_wp2_with (go_at_call 15; fail)
  refine (hundred_ok _).mono ?_
  rintro e w1 ⟨own1, t, rfl, H1⟩
  go_wp2_with (go_at_call 16; fail)
  refine (step_alloc H1 0 60 1 k1).mono ?_
  rintro e w2 ⟨own2, rfl, H2⟩
  go_wp2_with (go_at_call 16; fail)
  refine (step_alloc H2 0 54 1 k2).mono ?_
  rintro e w3 ⟨own3, rfl, H3⟩
  go_wp2_with (go_at_call 17; fail)
  refine (step_live H3 0 big5 k3).mono ?_
  rintro e w4 ⟨own4, rfl, H4⟩
  go_wp2_with (go_at_call 14; fail)
  refine (step_owner H4 12 rfl (by decide) owns_t5_12).mono ?_
  rintro e w5 ⟨own5, rfl, H5⟩
  go_wp2_with (go_at_call 18; fail)
  refine (step_stop H5 1 big5 k4).mono ?_
  rintro e w6 ⟨own6, rfl, H6⟩
  go_wp2_with (go_at_call 19; fail)
  refine (step_mark H6 0 k5).mono ?_
  rintro e w7 ⟨own7, rfl, H7⟩
  go_wp2_with (go_at_call 14; fail)
  refine (step_owner H7 25 rfl (by decide) owns_t6_25).mono ?_
  rintro e w8 ⟨own8, rfl, H8⟩
  go_wp2_with (go_at_call 16; fail)
  refine (step_alloc H8 0 1 1 k6).mono ?_
  rintro e w9 ⟨own9, rfl, H9⟩
  go_wp2_with (go_at_call 20; fail)
  refine (step_rewind H9 0 2 big6 k7).mono ?_
  rintro e w10 ⟨own10, rfl, H10⟩
  go_wp2_with (go_at_call 19; fail)
  refine (step_mark H10 0 k8).mono ?_
  rintro e w11 ⟨own11, rfl, H11⟩
  go_wp2_with (go_at_call 21; fail)
  refine (step_room H11 0 k9).mono ?_
  rintro e w12 ⟨own12, rfl, H12⟩
  go_wp2_with (go_at_call 16; fail)
  refine (step_alloc H12 1 1 1 k10).mono ?_
  rintro e w13 ⟨own13, rfl, H13⟩
  go_wp2_with (go_at_call 18; fail)
  refine (step_stop H13 0 big7 k11).mono ?_
  rintro e w14 ⟨own14, rfl, H14⟩
  go_wp2_with (go_at_call 10; fail)
  refine (awake_ok _).mono ?_
  rintro e w15 ⟨rfl, hb⟩
  go_wp2
  go_ret
  exact ⟨rfl, H14.below.trans (hb.mono H14.below.size)⟩
end Ne
end Go.Proofs.Ytllmddhahpegmaa
