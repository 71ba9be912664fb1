/- SlabsLoads: the arguments; Load where the sizes are not allowed. -/
import Derived.Test.YtlknhbcambdccaaJZK
import Derived.Deep.Grids
namespace Go.Proofs.Ytlknhbcambdccaa
open Go.RowKit
namespace Sl
open Bu

set_option maxRecDepth 100000 in
set_option maxHeartbeats 1000000 in
theorem load_bad (w : World) (b N : Nat) (L : List Blk) (hB : BuL w b N L) (size order keep : Int) (hsz : sizesB size order keep = false) (A : Option Addr) (n c : Nat) :
    Calls Try.prog 30 #[.pointer (some ⟨b, 0, none⟩), stv size order keep A n c] w fun e w' => e = .returned (.tuple #[.pointer none, .int .i64 7]) ∧ Below w.heap.size w w' := by
  obtain ⟨W1, hW1⟩ : ∃ W1, W1 = w.alloc (.cells #[.int .i64 size, .int .i64 order, .int .i64 keep, .slice A n c] 69) := ⟨_, rfl⟩
  have hb1 : Below w.heap.size w W1 := by rw [hW1]; exact below_box w _
  have hR1 : W1.heap[w.heap.size]? = some (.cells #[.int .i64 size, .int .i64 order, .int .i64 keep, .slice A n c] 69 (0, 0)) := by rw [hW1, heapAlloc, if_pos rfl]
  obtain ⟨q0, q1, q2, q3⟩ := four_at hR1
  have HN := Lib.hid (newC_ok W1 b N L size order keep (hB.keep (hb1.block b hB.lt)))
  have HW := Lib.hid hW1
  have HX := Lib.hid (And.intro hb1 hsz)
  clear hB hb1 hR1 hW1 hsz
  go_enter Try.func30, Try.ntmps30
  go_wp2_with (fail)
  rw [← HW.out]
  go_wp2_with (go_at_call 16; fail)
  refine HN.out.mono ?_
  intro e2 W2 hnew
  unfold NewC at hnew
  rw [if_neg (by rw [HX.out.2]; simp)] at hnew
  obtain ⟨rfl, hb2⟩ := hnew
  have H2 := Lib.hid hb2
  clear hb2
  go_wp2
  go_ret2
  exact ⟨rfl, below_step HX.out.1 H2.out (Nat.le_refl _)⟩

section
open Go.ChangeShapes Go.WideShapes Go.ChangeAt Go.Deep Go.Joins
variable {H : Type} {enc : TypeId × Value → H} {W : World} {v : Value} {d : DataW H} {p : List MemPlace}

set_option maxRecDepth 100000 in
theorem open_bools8 {fuel : Nat} {cs : List Value} {x : DataW H × List MemPlace} (hf : DataW.trod enc Try.prog W 0 (fun _ => true) true fuel 88 cs = some x) :
    ∃ (A : Option Addr) (c : Nat) (us : List Bool), cs = [.slice A us.length c] ∧ BoolAt 0 W A c us := by
  rcases open_bools Try.underlying88 Try.underlying4 (by kernel_rfl) hf with ⟨hcs, _⟩ | ⟨a, len, cap, Bf, hcs, _, hl, hm, _, hi⟩
  · exact ⟨none, 0, [], hcs, Nat.le_refl _, Nat.zero_le _, fun j x hx => by simp at hx⟩
  · have hspot : 0 < len → a.spot = none := fun h0 => by
      have := World.cell?_spot (hi 0 (by omega))
      rwa [Addr.add, if_pos rfl] at this
    have key : ∀ j : Nat, j < len → ∃ x : Bool, ∃ g o, some a = some ⟨g, o, none⟩ ∧ 0 ≤ g ∧ g < W.heap.size ∧ W.cell? ⟨g, o + j, none⟩ = some (.bool x) := by
      intro j hj
      have h1 := hi j (by omega)
      obtain ⟨g, o, spot⟩ := a
      obtain rfl : spot = none := hspot (by omega)
      rw [Bu.add_plain] at h1
      exact ⟨_, g, o, rfl, Nat.zero_le _, World.block_lt_of_cell? _ (a := ⟨g, _, none⟩) h1, h1⟩
    obtain ⟨l, rfl, hp⟩ := list_of _ len key
    exact ⟨some a, cap, l, hcs, hl, hm, hp⟩

set_option maxRecDepth 100000 in
theorem open_sblocks {fuel : Nat} {cs : List Value} {x : DataW H × List MemPlace} (hf : DataW.trod enc Try.prog W 0 (fun _ => true) true fuel 67 cs = some x) :
    ∃ (A : Option Addr) (c : Nat) (l : List (Int × List Bool)), cs = [.slice A l.length c] ∧ SbAt 0 W A c l ∧ ∀ x ∈ l, -9223372036854775808 ≤ x.1 ∧ x.1 < 9223372036854775808 := by
  rcases open_slice_fields Try.underlying67 Try.underlying90 (by kernel_rfl) (by kernel_rfl) hf with ⟨hcs, _⟩ | ⟨a, len, cap, m, D, Pl, hcs, _, hl, hm, hmm, _, hi⟩
  · exact ⟨none, 0, [], hcs, ⟨Nat.le_refl _, Nat.zero_le _, fun j x hx => by simp at hx⟩, fun x hx => by cases hx⟩
  · have hlm : len ≤ m := by rw [hmm]; split <;> omega
    have hspot : 0 < len → a.spot = none := by
      intro h0
      obtain ⟨ys, n, _, _, _, hfl⟩ := hi 0 (by omega)
      obtain ⟨v0, y0, c0, _, t0⟩ := hfl 0 _ rfl
      have := World.cell?_spot c0
      rwa [Nat.zero_mul, Addr.add, if_pos rfl] at this
    have key : ∀ j : Nat, j < len → ∃ x : Int × List Bool, (∃ g o U cu, some a = some ⟨g, o, none⟩ ∧ 0 ≤ g ∧ g < W.heap.size ∧ W.cell? ⟨g, o + j * 2, none⟩ = some (.int .i64 x.1) ∧ W.cell? ⟨g, o + j * 2 + 1, none⟩ = some (.slice U x.2.length cu) ∧ BoolAt 0 W U cu x.2) ∧ -9223372036854775808 ≤ x.1 ∧ x.1 < 9223372036854775808 := by
      intro j hj
      obtain ⟨ys, n, _, _, _, hfl⟩ := hi j (by omega)
      obtain ⟨v0, y0, c0, _, t0⟩ := hfl 0 _ rfl
      obtain ⟨v1, y1, c1, _, t1⟩ := hfl 1 _ rfl
      obtain ⟨n0, e0, _, hwf⟩ := DataW.trod_int Try.underlying3 t0
      obtain ⟨U, cu, us, e1, hU⟩ := open_bools8 t1
      simp only [List.cons.injEq, and_true] at e0 e1
      subst e0 e1
      obtain ⟨g, o, spot⟩ := a
      obtain rfl : spot = none := hspot (by omega)
      rw [Bu.add_plain] at c0 c1
      have hg : g < W.heap.size := World.block_lt_of_cell? _ (a := ⟨g, _, none⟩) c0
      exact ⟨(n0, us), ⟨g, o, U, cu, rfl, Nat.zero_le _, hg, by simpa [Nat.add_assoc] using c0, by simpa [Nat.add_assoc] using c1, hU⟩, wf_i64 hwf⟩
    obtain ⟨l, rfl, hp⟩ := list_of _ len key
    exact ⟨some a, cap, l, hcs, ⟨hl, hm, fun j x hx => (hp j x hx).1⟩, fun x hx => by
      obtain ⟨j, hj⟩ := List.mem_iff_getElem?.1 hx
      exact (hp j x hj).2⟩

set_option maxRecDepth 100000 in
theorem open_sstate {r : Reach} {b0 : Nat} (hv : Value.okWide Try.prog W r b0 69 v) (h : DataW.Trod enc Try.prog W 0 (fun _ => true) true 69 v d p) :
    ∃ (s o kp : Int) (A : Option Addr) (c : Nat) (l : List (Int × List Bool)), v = stv s o kp A l.length c ∧ SbAt 0 W A c l ∧ ∀ x ∈ l, -9223372036854775808 ≤ x.1 ∧ x.1 < 9223372036854775808 := by
  obtain ⟨v0, v1, v2, v3, y0, y1, y2, y3, n, rfl, _, _, t0, t1, t2, t3⟩ := open_agg4 Try.underlying69 (by kernel_rfl) (by kernel_rfl) hv h
  obtain ⟨n0, e0, _, _⟩ := DataW.trod_int Try.underlying3 t0
  obtain ⟨n1, e1, _, _⟩ := DataW.trod_int Try.underlying3 t1
  obtain ⟨n2, e2, _, _⟩ := DataW.trod_int Try.underlying3 t2
  obtain ⟨A, c, l, e3, h1, h2⟩ := open_sblocks t3
  simp only [List.cons.injEq, and_true] at e0 e1 e2 e3
  subst e0 e1 e2 e3
  exact ⟨n0, n1, n2, A, c, l, rfl, h1, h2⟩
end
end Sl
end Go.Proofs.Ytlknhbcambdccaa
