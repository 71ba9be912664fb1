/- SortFunc at the blocks. -/
import Derived.Test.YtdanhbbdkcbapaaSR
import Derived.Shelf.SlSortCmp.WholeK
import Derived.Shelf.SlicesG.Cmp
import Derived.Shelf.Small.Bits
import Derived.Test.YtdanhbbdkcbapaaShelf
namespace Go.Proofs.Ytdanhbbdkcbapaa
open Go.Shelf Go.RowKit Go.Lib Go.Sort
namespace Bu

abbrev PB := Fin 1024 × Fin 11
/-- A block's two cells. -/
def encB (x : PB) : List Value := [.int .i64 ((x.1.val : Nat) : Int), .int .i64 ((x.2.val : Nat) : Int)]
def cmpB (x y : PB) : Int := (x.1.val : Int) - (y.1.val : Int)

set_option maxHeartbeats 1000000 in
theorem closureB (x y : PB) (W : World) : Calls Try.prog 47 #[.agg #[.int .i64 ((x.1.val : Nat) : Int), .int .i64 ((x.2.val : Nat) : Int)], .agg #[.int .i64 ((y.1.val : Nat) : Int), .int .i64 ((y.2.val : Nat) : Int)]] W
    fun e w' => e = .returned (.int .i64 (cmpB x y)) ∧ ∃ q os', w' = grow (W.drewN q) os' := by
  have hp := x.1.isLt
  have hq := y.1.isLt
  unfold cmpB
  generalize x.1.val = p at *
  generalize y.1.val = q at *
  generalize ((x.2.val : Nat) : Int) = a at *
  generalize ((y.2.val : Nat) : Int) = c at *
  have e1 : (p : Int) < 1024 := by omega
  have e2 : (q : Int) < 1024 := by omega
  have hw : IntKind.i64.wrap ((p : Int) - (q : Int)) = (p : Int) - (q : Int) := IntWalk.i64_in _ (by omega)
  go_enter Try.func47, Try.ntmps47
  go_wp2
  go_ret
  exact ⟨rfl, 0, _, by rw [alloc_eq_grow, alloc_eq_grow, grow_grow]; rfl⟩

theorem cmpLaysB (blk off size : Nat) (w : World) : CmpLays Try.prog 47 #[] encB 2 cmpB blk off size w :=
  fun _ _ _ _ x y => closureB x y _

theorem ltB (x y : PB) : ltOf cmpB x y = decide (x.1.val < y.1.val) := by
  unfold ltOf cmpB
  by_cases h : x.1.val < y.1.val
  · simp [h]; omega
  · simp [h]; omega

theorem swoB : SWO (ltOf cmpB) where
  irrefl x := by rw [ltB]; simp
  trans x y z h1 h2 := by rw [ltB] at *; simp at *; omega
  ntrans x y z h1 h2 := by rw [ltB] at *; simp at *; omega

theorem sort_ok (blk off cap : Nat) (d : Array PB) (w : World) (hH : HoldsK encB 2 w blk off d) (hblk : blk < w.heap.size) (hsz : d.size < 4611686018427387904) :
    Calls Try.prog 46 #[.slice (some ⟨blk, off, none⟩) d.size cap, .func (.func 47) #[] #[]] w fun e w' => e = .returned (.tuple #[]) ∧ ∃ d' n os, PermIn 0 d.size d d' ∧ SortedIn (ltOf cmpB) 0 d.size d' ∧ w' = sortWorldK encB 2 w blk off n d' os := by
  have eg : ∀ args w, (callFunc 47 args).run Try.prog w = .ok (.enter 47 args) w := enters_of Try.func47 (by kernel_rfl) rfl
  exact AnyQ.slices_SortFunc Try.sortBl 2 Try.isAgg39 Try.sizeOf39 encB (fun _ => rfl) (fun x v hv => by simp [encB] at hv; rcases hv with rfl | rfl <;> rfl) cmpB swoB 47 #[] blk off cap d w eg (cmpLaysB blk off d.size w) hH hblk hsz
end Bu
end Go.Proofs.Ytdanhbbdkcbapaa
