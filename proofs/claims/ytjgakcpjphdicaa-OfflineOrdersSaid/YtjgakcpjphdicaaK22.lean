/- Quick: what it compares. The stable sort: exchanging two ranges. -/
import Derived.Test.YtjgakcpjphdicaaK17
import Derived.Test.YtjgakcpjphdicaaK14
import Derived.Deep.RegionWith
import Derived.Shelf.SlSortCmp.Kit1
import Derived.Sort.WalkB2
import Derived.Sort.WalkB12
import Derived.Deep.LoopGhost
namespace Go.Proofs.Ytjgakcpjphdicaa
open Go.Shelf Go.RowKit Go.Lib Go.Sort
namespace Of

def orV (a b : Int) : Int := if a ≠ 0 then a else b
set_option maxHeartbeats 2000000 in
theorem or_ok (w : World) (g : Nat) (a b : Int) (h0 : w.cell? ⟨g, 0, none⟩ = some (.int .i64 a)) (h1 : w.cell? ⟨g, 1, none⟩ = some (.int .i64 b)) :
    Calls Try.prog 51 #[.slice (some ⟨g, 0, none⟩) 2 2] w fun e w' => e = .returned (.int .i64 (orV a b)) ∧ w = w' := by
  have H := Lib.hid (And.intro h0 h1)
  clear h0 h1
  go_enter Try.func51, Try.ntmps51
  go_wp2
  go_loopw [8] (fun v wr => ∃ k : Nat, k ≤ 2 ∧ v = .int .i64 (k : Int) ∧ wr = w ∧ (1 ≤ k → a = 0) ∧ (2 ≤ k → b = 0)) (fun v _ => 2 - (intOf v).toNat)
  case atStart => exact ⟨0, by omega, rfl, rfl, fun h => by omega, fun h => by omega⟩
  case round =>
    obtain ⟨k, hk, rfl, rfl, ha, hb⟩ := hrel
    have hk3 : k = 0 ∨ k = 1 ∨ k = 2 := by omega
    rcases hk3 with rfl | rfl | rfl
    · have c0 := H.out.1
      by_cases e : a = 0
      · have ne : (a != 0) = false := by simp [e]
        have HE := Lib.hid e
        clear e ha hb
        go_wp2
        go_roundw
        case rel => exact ⟨1, by omega, by go_num, trivial, fun _ => HE.out, fun h => by omega⟩
        case measure => simp [intOf]
      · have ne : (a != 0) = true := by simpa using e
        have HE := Lib.hid e
        clear e ha hb
        go_wp2
        go_ret
        rw [show orV a b = a by unfold orV; rw [if_pos HE.out]]
        exact ⟨rfl, rfl⟩
    · have c1 := H.out.2
      have e : a = 0 := ha (Nat.le_refl _)
      have HE := Lib.hid e
      by_cases e2 : b = 0
      · have ne : (b != 0) = false := by simp [e2]
        have HE2 := Lib.hid e2
        clear e e2 ha hb
        go_wp2
        go_roundw
        case rel => exact ⟨2, by omega, by go_num, trivial, fun _ => HE.out, fun _ => HE2.out⟩
        case measure => simp [intOf]
      · have ne : (b != 0) = true := by simpa using e2
        clear e e2 ha hb
        go_wp2
        go_ret
        rw [show orV a b = b by unfold orV; rw [if_neg (by rw [HE.out]; simp)]]
        exact ⟨rfl, rfl⟩
    · have HE := Lib.hid (And.intro (ha (by omega)) (hb (by omega)))
      clear ha hb
      go_wp2
      go_ret
      rw [show orV a b = 0 by unfold orV; rw [if_neg (by rw [HE.out.1]; simp), HE.out.2]]
      exact ⟨rfl, rfl⟩

theorem cell_two_a (w : World) (x y : Value) (T : TypeId) : (w.alloc (.cells #[x, y] T)).cell? ⟨w.heap.size, 0, none⟩ = some x := by
  rw [cell_of_row _ _ _ _ _ _ (show (w.alloc (.cells #[x, y] T)).heap[w.heap.size]? = some (.cells #[x, y] T (0, 0)) by rw [heapAlloc, if_pos rfl])]; rfl
theorem cell_two_b (w : World) (x y : Value) (T : TypeId) : (w.alloc (.cells #[x, y] T)).cell? ⟨w.heap.size, 1, none⟩ = some y := by
  rw [cell_of_row _ _ _ _ _ _ (show (w.alloc (.cells #[x, y] T)).heap[w.heap.size]? = some (.cells #[x, y] T (0, 0)) by rw [heapAlloc, if_pos rfl])]; rfl
theorem cell_two_c (w : World) (x y : Value) (T : TypeId) : (w.alloc (.cells #[x, y] T)).drew.cell? ⟨w.heap.size, 0, none⟩ = some x := cell_two_a w x y T
theorem cell_two_d (w : World) (x y : Value) (T : TypeId) : (w.alloc (.cells #[x, y] T)).drew.cell? ⟨w.heap.size, 1, none⟩ = some y := cell_two_b w x y T
theorem drew_grow (w : World) (o : Obj) : (w.alloc o).drew = grow (w.drewN 1) #[o] := by
  unfold grow World.alloc World.drew World.drewN
  simp
/-- What Quick compares. -/
def qcmp (L : List OB) (x y : Nat) : Int := orV (cmpV (blk L x).f (blk L y).f) (cmpV (blk L y).s (blk L x).s)
set_option maxHeartbeats 4000000 in
set_option maxRecDepth 100000 in
theorem qcmp_ok (w : World) (bp lc : Nat) (lA : Option Addr) (L : List OB) (hp : w.cell? ⟨bp, 0, none⟩ = some (.slice lA L.length lc)) (hl : OBAt w lA lc L) (x y : Nat) (hx : x < L.length) (hy : y < L.length) :
    Calls Try.prog 50 #[.int .i64 (x : Int), .int .i64 (y : Int), .pointer (some ⟨bp, 0, none⟩)] w fun e w' => e = .returned (.int .i64 (qcmp L x y)) ∧ ∃ q os', w' = grow (w.drewN q) os' := by
  have hcap := hl.2.1
  have hlc := hl.1
  unfold maxLen at hcap
  obtain ⟨g, o, hA, hg, s1, _, f1, _⟩ := hl.at hx
  obtain ⟨g2, o2, hA2, _, s2, _, f2, _⟩ := hl.at hy
  rw [hA] at hA2
  injection hA2 with hA2; injection hA2 with e1 e2
  subst e1; subst e2
  subst hA
  clear hl
  unfold qcmp
  generalize (blk L x).f = fx at *
  generalize (blk L y).f = fy at *
  generalize (blk L x).s = sx at *
  generalize (blk L y).s = sy at *
  go_enter Try.func50, Try.ntmps50
  go_wp2_with (fail)
  go_still_tail 22, (by kernel_rfl)
  still_call ((cmpI_ok fx fy _).mono fun _ _ h => ⟨h.1, h.2.symm⟩)
  repeat still_step
  still_call ((cmp64_ok sy sx _).mono fun _ _ h => ⟨h.1, h.2.symm⟩)
  refine wpStill_nil ?_
  change wpList _ _ _ _ _ w.drew
  go_wp2_with (go_at_call 51; refine (or_ok _ w.heap.size _ _ (cell_two_c _ _ _ _) (cell_two_d _ _ _ _)).mono ?_; rintro e w1 ⟨rfl, rfl⟩)
  go_ret
  exact ⟨rfl, 1, #[.cells #[.int .i64 (cmpV fx fy), .int .i64 (cmpV sy sx)] 3], drew_grow _ _⟩
end Of
end Go.Proofs.Ytjgakcpjphdicaa
namespace Go.Proofs.Ytjgakcpjphdicaa
open Go.Shelf Go.RowKit Go.Lib Go.Sort Go.Proofs
namespace Of

/-- k exchanges. -/
def swapR {α : Type} [Inhabited α] (d : Array α) (a b : Nat) : Nat → Array α
  | 0 => d
  | k + 1 => swp (swapR d a b k) (a + k) (b + k)
theorem swapR_size {α : Type} [Inhabited α] (d : Array α) (a b : Nat) : ∀ k, (swapR d a b k).size = d.size
  | 0 => rfl
  | k + 1 => by rw [swapR, size_swp, swapR_size d a b k]

set_option maxHeartbeats 4000000 in
set_option maxRecDepth 1000000 in
theorem swapRange_ok {α : Type} [Inhabited α] (enc : α → Value) (fv : Value) (blk cap a b k : Nat) (d0 d : Array α) (w0 w : World)
    (R : Row1 enc w0 blk 0 d0) (hs : d0.size = d.size) (S : SW enc w0 blk 0 d w) (ha : a + k ≤ d.size) (hb : b + k ≤ d.size) (hsz : d.size ≤ 100000) :
    Calls Try.prog 107 #[.slice (some ⟨blk, 0, none⟩) d.size cap, .int .i64 (a : Int), .int .i64 (b : Int), .int .i64 (k : Int), fv] w fun e w' => e = .returned (.tuple #[]) ∧ SW enc w0 blk 0 (swapR d a b k) w' := by
  have mixed : Try.prog.follows .mixedOrders = true := by kernel_rfl
  have hcl0 := R.hO.cells
  simp only [Value.cells] at hcl0
  have hst := R.hO.store Try.prog
  have S0 : Aside (SW enc w0 blk 0 d w) := S
  clear S
  go_enter Try.func107, Try.ntmps107
  go_wp2_with (fail)
  go_loopw [10] (fun iv wr => ∃ i : Nat, i ≤ k ∧ iv = .int .i64 (i : Int) ∧ Aside (SW enc w0 blk 0 (swapR d a b i) wr)) (fun iv _ => k - (intOf iv).toNat)
  case atStart => exact ⟨0, Nat.zero_le _, rfl, S0⟩
  case round =>
    clear S0
    obtain ⟨i, hi, rfl, S1⟩ := hrel
    by_cases hlt : i < k
    · have hds := swapR_size d a b i
      have hnx : swapR d a b (i + 1) = swp (swapR d a b i) (a + i) (b + i) := rfl
      generalize swapR d a b i = dk at *
      have HN := Lib.hid hnx
      clear hnx
      go_wp2_with fail
      have ra : IntKind.i64.wrap ((a : Int) + (i : Int)) = (a : Int) + (i : Int) := by rw [IntKind.wrap_i64]; omega
      have rb : IntKind.i64.wrap ((b : Int) + (i : Int)) = (b : Int) + (i : Int) := by rw [IntKind.wrap_i64]; omega
      have pa : (0 : Int) ≤ (a : Int) + (i : Int) := by omega
      have ba : (a : Int) + (i : Int) < (d.size : Int) := by omega
      have pb : (0 : Int) ≤ (b : Int) + (i : Int) := by omega
      have bb : (b : Int) + (i : Int) < (d.size : Int) := by omega
      have ta : ((a : Int) + (i : Int)).toNat = a + i := by omega
      have tb : ((b : Int) + (i : Int)).toNat = b + i := by omega
      obtain ⟨x, hx⟩ : ∃ x, x = dk[a + i]! := ⟨_, rfl⟩
      obtain ⟨y, hy⟩ : ∃ x, x = dk[b + i]! := ⟨_, rfl⟩
      have S2 : Aside (SW enc w0 blk 0 (swp dk (a + i) (b + i)) ((wr.setCell ⟨blk, 0 + (a + i), none⟩ (enc y)).setCell ⟨blk, 0 + (b + i), none⟩ (enc x)).drew) := by rw [hx, hy]; exact S1.out.swapped R (a + i) (b + i) (by omega) (by omega)
      have c1a := S1.out.c1 R (by omega) (a + i) (by omega)
      have c1b := S1.out.c1 R (by omega) (b + i) (by omega)
      have f1a := S1.out.f1 R (by omega) (a + i) (by omega)
      have f1b := S1.out.f1 R (by omega) (b + i) (by omega)
      obtain ⟨u, c1c⟩ := S1.out.c2 R (by omega) (a + i) (b + i) (by omega) (by omega) (enc y)
      rw [← hx] at c1a
      rw [← hy] at c1b
      rw [Nat.zero_add] at c1a c1b f1a f1b
      simp only [Nat.zero_add] at S2 c1c
      clear S1 hx hy
      go_big_region_o
      clear c1a c1b c1c f1a f1b
      generalize ((wr.setCell ⟨blk, a + i, none⟩ (enc y)).setCell ⟨blk, b + i, none⟩ (enc x)).drew = w2 at S2 ⊢
      go_wp2
      go_roundw
      case rel => exact ⟨i + 1, by omega, by go_num, by rw [HN.out]; exact S2⟩
      case measure => simp [intOf]; omega
    · obtain rfl : i = k := by omega
      go_wp2
      go_end0
      exact ⟨rfl, S1.out⟩
end Of
end Go.Proofs.Ytjgakcpjphdicaa
