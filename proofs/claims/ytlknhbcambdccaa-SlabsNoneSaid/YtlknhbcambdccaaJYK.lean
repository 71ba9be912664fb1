/- Caches that are nil, or were not returned by New or Load. -/
import Derived.Test.YtlknhbcambdccaaJYJ
namespace Go.Proofs.Ytlknhbcambdccaa
open Go.RowKit
namespace Sl
open Bu

/-- A cache that is nil, or was not returned by New or Load. -/
def Dead (w : World) (p : Option Addr) : Prop := p = none ∨ ∃ c, p = some ⟨c, 0, none⟩ ∧ w.cell? ⟨c, 0, none⟩ = some (.pointer none)
theorem Dead.below {w w' : World} {p : Option Addr} (h : Dead w p) (hb : Below w.heap.size w w') : Dead w' p := by
  rcases h with h | ⟨c, h1, h2⟩
  · exact .inl h
  · exact .inr ⟨c, h1, cell_keep2 hb h2⟩
theorem dead_any (w : World) (p : Option Addr) (h : Dead w p) : Calls Try.prog 34 #[.pointer p] w fun e w' => e = .returned (.bool true) ∧ w = w' := by
  rcases h with rfl | ⟨c, rfl, hc⟩
  · exact dead_nil w
  · exact dead_ok w c none hc

set_option maxRecDepth 100000 in
theorem alloc_dead (w : World) (p : Option Addr) (h : Dead w p) : Calls Try.prog 12 #[.pointer p] w fun e w' => e = .returned (.tuple #[.int .i64 0, .int .i64 1]) ∧ Below w.heap.size w w' := by
  have HD := Lib.hid (dead_any w p h)
  clear h
  go_enter Try.func12, Try.ntmps12
  go_wp2_with (go_at_call 34; refine HD.out.mono ?_; rintro e w' ⟨rfl, rfl⟩)
  go_ret2
  exact ⟨rfl, Below.refl _ _⟩
set_option maxRecDepth 100000 in
theorem trim_dead (w : World) (p : Option Addr) (h : Dead w p) : Calls Try.prog 20 #[.pointer p] w fun e w' => e = .returned (.tuple #[.int .i64 0, .int .i64 1]) ∧ Below w.heap.size w w' := by
  have HD := Lib.hid (dead_any w p h)
  clear h
  go_enter Try.func20, Try.ntmps20
  go_wp2_with (go_at_call 34; refine HD.out.mono ?_; rintro e w' ⟨rfl, rfl⟩)
  go_ret2
  exact ⟨rfl, Below.refl _ _⟩
set_option maxRecDepth 100000 in
theorem owner_dead (w : World) (p : Option Addr) (at_ : Int) (h : Dead w p) : Calls Try.prog 13 #[.pointer p, .int .i64 at_] w fun e w' => e = .returned (.tuple #[.int .i64 0, .bool false, .int .i64 1]) ∧ Below w.heap.size w w' := by
  have HD := Lib.hid (dead_any w p h)
  clear h
  go_enter Try.func13, Try.ntmps13
  go_wp2_with (go_at_call 34; refine HD.out.mono ?_; rintro e w' ⟨rfl, rfl⟩)
  exact bodyPost_ret (v := .tuple #[.int .i64 0, .bool false, .int .i64 1]) (by simp [results, Try.results13, go_sem]) rfl ⟨rfl, Below.refl _ _⟩
set_option maxRecDepth 100000 in
theorem objects_dead (w : World) (p : Option Addr) (h : Dead w p) : Calls Try.prog 19 #[.pointer p] w fun e w' => e = .returned (.tuple #[.slice none 0 0, .int .i64 1]) ∧ Below w.heap.size w w' := by
  have HD := Lib.hid (dead_any w p h)
  clear h
  go_enter Try.func19, Try.ntmps19
  go_wp2_with (go_at_call 34; refine HD.out.mono ?_; rintro e w' ⟨rfl, rfl⟩)
  go_ret2
  exact ⟨rfl, Below.refl _ _⟩
set_option maxRecDepth 100000 in
theorem slabs_dead (w : World) (p : Option Addr) (h : Dead w p) : Calls Try.prog 14 #[.pointer p] w fun e w' => e = .returned (.tuple #[.slice none 0 0, .int .i64 1]) ∧ Below w.heap.size w w' := by
  have HD := Lib.hid (dead_any w p h)
  clear h
  go_enter Try.func14, Try.ntmps14
  go_wp2_with (go_at_call 34; refine HD.out.mono ?_; rintro e w' ⟨rfl, rfl⟩)
  go_ret2
  exact ⟨rfl, Below.refl _ _⟩
set_option maxRecDepth 100000 in
theorem capacity_dead (w : World) (p : Option Addr) (h : Dead w p) : Calls Try.prog 29 #[.pointer p] w fun e w' => e = .returned (.tuple #[.int .i64 0, .int .i64 1]) ∧ Below w.heap.size w w' := by
  have HD := Lib.hid (dead_any w p h)
  clear h
  go_enter Try.func29, Try.ntmps29
  go_wp2_with (go_at_call 34; refine HD.out.mono ?_; rintro e w' ⟨rfl, rfl⟩)
  go_ret2
  exact ⟨rfl, Below.refl _ _⟩
set_option maxRecDepth 100000 in
theorem free_dead (w : World) (p : Option Addr) (at_ : Int) (h : Dead w p) : Calls Try.prog 11 #[.pointer p, .int .i64 at_] w fun e w' => e = .returned (.int .i64 1) ∧ Below w.heap.size w w' := by
  have HD := Lib.hid (fun W : World => fun hW : Below w.heap.size w W => dead_any W p (h.below hW))
  clear h
  go_enter Try.func11, Try.ntmps11
  go_wp2_with (go_at_call 34; refine (HD.out _ (below_box _ _)).mono ?_; rintro e w' ⟨rfl, rfl⟩)
  go_ret
  exact ⟨rfl, below_box _ _⟩
set_option maxRecDepth 100000 in
set_option maxHeartbeats 1000000 in
theorem save_dead (w : World) (p : Option Addr) (h : Dead w p) : Calls Try.prog 27 #[.pointer p] w fun e w' => e = .returned (stv 0 0 0 none 0 0) ∧ Below w.heap.size w w' := by
  obtain ⟨W1, hW1⟩ : ∃ W1, W1 = w.alloc (.cells #[.int .i64 0, .int .i64 0, .int .i64 0, .slice none 0 0] 69) := ⟨_, rfl⟩
  have hb1 : Below w.heap.size w W1 := by rw [hW1]; exact below_box w _
  have hR1 : W1.heap[w.heap.size]? = some (.cells #[.int .i64 0, .int .i64 0, .int .i64 0, .slice none 0 0] 69 (0, 0)) := by rw [hW1, heapAlloc, if_pos rfl]
  have HD := Lib.hid (dead_any W1 p (h.below hb1))
  have HW := Lib.hid hW1
  obtain ⟨q0, q1, q2, q3⟩ := four_at hR1
  have qf : ∀ o, W1.frozen? ⟨w.heap.size, o, none⟩ = false := fun o => by simp [World.frozen?, hR1]
  have qf0 := qf 0
  have qf1 := qf 1
  have qf2 := qf 2
  have qf3 := qf 3
  have HX := Lib.hid (And.intro hb1 hR1)
  clear h hW1 hb1 hR1 qf
  go_enter Try.func27, Try.ntmps27
  go_wp2_with (go_at_call 34; fail)
  rw [← HW.out]
  refine HD.out.mono ?_
  rintro _ w' ⟨rfl, rfl⟩
  go_wp2_with (fail)
  have hfin := four_set HX.out.2 (.int .i64 0) (.int .i64 0) (.int .i64 0) (.slice none 0 0)
  obtain ⟨q4, q5, q6, q7⟩ := four_at hfin
  refine bodyPost_ret (v := stv 0 0 0 none 0 0) (by simp [results, Try.results27, go_sem, q4, q5, q6, q7]) rfl ⟨rfl, ?_⟩
  exact ((((HX.out.1.setCell (p := ⟨w.heap.size, 0, none⟩) (Nat.le_refl _) _).setCell (p := ⟨w.heap.size, 1, none⟩) (Nat.le_refl _) _).setCell (p := ⟨w.heap.size, 2, none⟩) (Nat.le_refl _) _).setCell (p := ⟨w.heap.size, 3, none⟩) (Nat.le_refl _) _)
end Sl
end Go.Proofs.Ytlknhbcambdccaa
