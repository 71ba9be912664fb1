/- The comparison of sorted. DERIVED: THE SHELF's CONTRACTS AT THIS DUMP, IN PLAIN WORDS (tools/lay-plain.mjs out of 'YtdanhbbdkcbapaaShelf0.lean', which tools/lay-shelf.mjs wrote): THE SAME DECLARATIONS UNDER THE SAME NAMES: 'import', 'namespace', 'open', 'def', 'theorem' AND NOTHING ELSE: no command of the shelf's: FOR A HAND-IN. Each laying: the table of numbers ('.._ren') and one theorem, a field a fact of the dump's own or the kernel's comparison; each contract: ONE APPLICATION. SortFunc at the blocks. -/
import Derived.Test.YtdanhbbdkcbapaaK7
import Derived.Shelf.SlSortCmp.WholeK
import Derived.Shelf.SlicesG.Cmp
import Derived.Shelf.Small.Bits
import Derived.Ground.SlsfProg
import Derived.Ground.NamesProg
import Derived.Test.YtdanhbbdkcbapaaProg
namespace Go.Proofs.Ytdanhbbdkcbapaa
open Go.RowKit
namespace Bu

set_option maxHeartbeats 1000000 in
theorem less_ok (w : World) (p q : Nat) (a c : Int) (hp : p < 1024) (hq : q < 1024) :
    Calls Try.prog 47 #[.agg #[.int .i64 (p : Int), .int .i64 a], .agg #[.int .i64 (q : Int), .int .i64 c]] w fun e w' => e = .returned (.int .i64 ((p : Int) - (q : Int))) ∧ Below w.heap.size w w' := by
  obtain ⟨W1, hW1⟩ : ∃ W1, W1 = (w.alloc (.cells #[.int .i64 (p : Int), .int .i64 a] 39)).alloc (.cells #[.int .i64 (q : Int), .int .i64 c] 39) := ⟨_, rfl⟩
  have hb : Below w.heap.size w W1 := by rw [hW1]; exact ((Below.refl _ _).alloc (Nat.le_refl _) _).alloc (by simp) _
  have x1 : W1.heap[w.heap.size]? = some (.cells #[.int .i64 (p : Int), .int .i64 a] 39 (0, 0)) := by rw [hW1, heapAlloc, if_neg (by simp), heapAlloc, if_pos rfl]
  have x2 : W1.heap[w.heap.size + 1]? = some (.cells #[.int .i64 (q : Int), .int .i64 c] 39 (0, 0)) := by rw [hW1, heapAlloc, if_pos (by simp)]
  obtain ⟨c1, _, _, _⟩ := two_cells x1
  obtain ⟨c2, _, _, _⟩ := two_cells x2
  have hw : IntKind.i64.wrap ((p : Int) - (q : Int)) = (p : Int) - (q : Int) := IntWalk.i64_in _ (by omega)
  have e1 : (p : Int) < 1024 := by omega
  have e2 : (q : Int) < 1024 := by omega
  have HB := Lib.hid hb
  clear hb x1 x2
  go_enter Try.func47, Try.ntmps47
  go_wp2_with (fail)
  rw [← hW1]
  clear hW1
  go_wp2
  go_ret
  exact ⟨rfl, HB.out⟩
end Bu
end Go.Proofs.Ytdanhbbdkcbapaa
namespace Go.Proofs
open Go.Shelf
def Try.sortBl_ren : Go.Shelf.Ren := ⟨fun | 6 => 46 | 15 => 52 | 14 => 51 | 28 => 61 | 29 => 62 | 20 => 53 | 21 => 54 | 22 => 55 | 23 => 56 | 24 => 57 | 25 => 58 | 26 => 59 | 27 => 60 | 46 => 63 | 47 => 64 | 48 => 65 | 49 => 66 | 50 => 67 | 57 => 68 | n => n, fun | 22 => 22 | 24 => 39 | 25 => 88 | 3 => 3 | 39 => 74 | 0 => 0 | 53 => 102 | 55 => 52 | 4 => 4 | 46 => 95 | 45 => 94 | 50 => 99 | 5 => 5 | 9 => 9 | 66 => 104 | 70 => 108 | 76 => 110 | 77 => 111 | n => n, fun | n => n⟩
theorem Try.sortBl : Go.Proofs.SlLaysF0.n6 Try.prog Try.sortBl_ren := {
  mixed := by kernel_rfl
  f6 := ⟨Try.f46.name, by decide, Try.func46.trans (congrArg some (by kernel_rfl))⟩
  f14 := ⟨Try.f51.name, by decide, Try.func51.trans (congrArg some (by kernel_rfl))⟩
  f15 := Try.func52.trans (congrArg some (by kernel_rfl))
  f20 := ⟨Try.f53.name, by decide, Try.func53.trans (congrArg some (by kernel_rfl))⟩
  f21 := ⟨Try.f54.name, by decide, Try.func54.trans (congrArg some (by kernel_rfl))⟩
  f22 := ⟨Try.f55.name, by decide, Try.func55.trans (congrArg some (by kernel_rfl))⟩
  f23 := ⟨Try.f56.name, by decide, Try.func56.trans (congrArg some (by kernel_rfl))⟩
  f24 := ⟨Try.f57.name, by decide, Try.func57.trans (congrArg some (by kernel_rfl))⟩
  f25 := ⟨Try.f58.name, by decide, Try.func58.trans (congrArg some (by kernel_rfl))⟩
  f26 := ⟨Try.f59.name, by decide, Try.func59.trans (congrArg some (by kernel_rfl))⟩
  f27 := ⟨Try.f60.name, by decide, Try.func60.trans (congrArg some (by kernel_rfl))⟩
  f28 := Try.func61.trans (congrArg some (by kernel_rfl))
  f29 := Try.func62.trans (congrArg some (by kernel_rfl))
  f46 := ⟨Try.f63.name, by decide, Try.func63.trans (congrArg some (by kernel_rfl))⟩
  f47 := Try.func64.trans (congrArg some (by kernel_rfl))
  f48 := Try.func65.trans (congrArg some (by kernel_rfl))
  f49 := ⟨Try.f66.name, by decide, Try.func66.trans (congrArg some (by kernel_rfl))⟩
  f50 := ⟨Try.f67.name, by decide, Try.func67.trans (congrArg some (by kernel_rfl))⟩
  f57 := ⟨Try.f68.name, by decide, Try.func68.trans (congrArg some (by kernel_rfl))⟩
  t0 := Try.underlying0
  a0 := Try.isAgg0
  z0 := Try.sizeOf0
  v0 := Try.zeroValue0
  t3 := Try.underlying3
  a3 := Try.isAgg3
  z3 := Try.sizeOf3
  v3 := Try.zeroValue3
  t4 := Try.underlying4
  a4 := Try.isAgg4
  z4 := Try.sizeOf4
  v4 := Try.zeroValue4
  t5 := Try.underlying5
  a5 := Try.isAgg5
  z5 := Try.sizeOf5
  v5 := Try.zeroValue5
  t9 := Try.underlying9
  a9 := Try.isAgg9
  z9 := Try.sizeOf9
  v9 := Try.zeroValue9
  t22 := Try.underlying22
  a22 := Try.isAgg22
  z22 := Try.sizeOf22
  v22 := Try.zeroValue22
  t25 := Try.underlying88
  a25 := Try.isAgg88
  z25 := Try.sizeOf88
  v25 := Try.zeroValue88
  t39 := Try.underlying74
  a39 := Try.isAgg74
  z39 := Try.sizeOf74
  v39 := Try.zeroValue74
  t45 := Try.underlying94
  a45 := Try.isAgg94
  z45 := Try.sizeOf94
  v45 := Try.zeroValue94
  t46 := Try.underlying95
  a46 := Try.isAgg95
  z46 := Try.sizeOf95
  v46 := Try.zeroValue95
  t50 := Try.underlying99
  a50 := Try.isAgg99
  z50 := Try.sizeOf99
  v50 := Try.zeroValue99
  t53 := Try.underlying102
  a53 := Try.isAgg102
  z53 := Try.sizeOf102
  v53 := Try.zeroValue102
  t55 := Try.underlying52
  a55 := Try.isAgg52
  z55 := Try.sizeOf52
  v55 := Try.zeroValue52
  t66 := Try.underlying104
  a66 := Try.isAgg104
  z66 := Try.sizeOf104
  v66 := Try.zeroValue104
  t70 := Try.underlying108
  a70 := Try.isAgg108
  z70 := Try.sizeOf108
  v70 := Try.zeroValue108
  t76 := Try.underlying110
  a76 := Try.isAgg110
  z76 := Try.sizeOf110
  v76 := Try.zeroValue110
  t77 := Try.underlying111
  a77 := Try.isAgg111
  z77 := Try.sizeOf111
  v77 := Try.zeroValue111 }
def Try.bitsLenB_ren : Go.Shelf.Ren := ⟨fun | 125 => 52 | 128 => 61 | 129 => 62 | n => n, fun | 46 => 74 | 3 => 3 | 51 => 102 | 53 => 52 | 4 => 4 | 5 => 5 | 9 => 9 | n => n, fun | n => n⟩
theorem Try.bitsLenB : Go.Proofs.Lays.n125 Try.prog Try.bitsLenB_ren := {
  mixed := by kernel_rfl
  f125 := Try.func52.trans (congrArg some (by kernel_rfl))
  f128 := Try.func61.trans (congrArg some (by kernel_rfl))
  f129 := Try.func62.trans (congrArg some (by kernel_rfl))
  t3 := Try.underlying3
  a3 := Try.isAgg3
  z3 := Try.sizeOf3
  v3 := Try.zeroValue3
  t4 := Try.underlying4
  a4 := Try.isAgg4
  z4 := Try.sizeOf4
  v4 := Try.zeroValue4
  t5 := Try.underlying5
  a5 := Try.isAgg5
  z5 := Try.sizeOf5
  v5 := Try.zeroValue5
  t9 := Try.underlying9
  a9 := Try.isAgg9
  z9 := Try.sizeOf9
  v9 := Try.zeroValue9
  t46 := Try.underlying74
  a46 := Try.isAgg74
  z46 := Try.sizeOf74
  v46 := Try.zeroValue74
  t51 := Try.underlying102
  a51 := Try.isAgg102
  z51 := Try.sizeOf102
  v51 := Try.zeroValue102
  t53 := Try.underlying52
  a53 := Try.isAgg52
  z53 := Try.sizeOf52
  v53 := Try.zeroValue52 }
end Go.Proofs
namespace Go.Proofs.Ytdanhbbdkcbapaa
open Go.Shelf Go.RowKit Go.Lib Go.Sort
namespace Bu

abbrev PB := Fin 1024 × Fin 11
/-- A block's two cells. -/
def encB (x : PB) : List Value := [.int .i64 ((x.1.val : Nat) : Int), .int .i64 ((x.2.val : Nat) : Int)]
def cmpB (x y : PB) : Int := (x.1.val : Int) - (y.1.val : Int)

set_option maxHeartbeats 1000000 in
theorem closureB (x y : PB) (W : World) : Calls Try.prog 47 #[.agg #[.int .i64 ((x.1.val : Nat) : Int), .int .i64 ((x.2.val : Nat) : Int)], .agg #[.int .i64 ((y.1.val : Nat) : Int), .int .i64 ((y.2.val : Nat) : Int)]] W
    fun e w' => e = .returned (.int .i64 (cmpB x y)) ∧ ∃ q os', w' = grow (W.drewN q) os' := by
  have hp := x.1.isLt
  have hq := y.1.isLt
  unfold cmpB
  generalize x.1.val = p at *
  generalize y.1.val = q at *
  generalize ((x.2.val : Nat) : Int) = a at *
  generalize ((y.2.val : Nat) : Int) = c at *
  have e1 : (p : Int) < 1024 := by omega
  have e2 : (q : Int) < 1024 := by omega
  have hw : IntKind.i64.wrap ((p : Int) - (q : Int)) = (p : Int) - (q : Int) := IntWalk.i64_in _ (by omega)
  go_enter Try.func47, Try.ntmps47
  go_wp2
  go_ret
  exact ⟨rfl, 0, _, by rw [alloc_eq_grow, alloc_eq_grow, grow_grow]; rfl⟩

theorem cmpLaysB (blk off size : Nat) (w : World) : CmpLays Try.prog 47 #[] encB 2 cmpB blk off size w :=
  fun _ _ _ _ x y => closureB x y _

theorem ltB (x y : PB) : ltOf cmpB x y = decide (x.1.val < y.1.val) := by
  unfold ltOf cmpB
  by_cases h : x.1.val < y.1.val
  · simp [h]; omega
  · simp [h]; omega

theorem swoB : SWO (ltOf cmpB) where
  irrefl x := by rw [ltB]; simp
  trans x y z h1 h2 := by rw [ltB] at *; simp at *; omega
  ntrans x y z h1 h2 := by rw [ltB] at *; simp at *; omega

theorem sort_ok (blk off cap : Nat) (d : Array PB) (w : World) (hH : HoldsK encB 2 w blk off d) (hblk : blk < w.heap.size) (hsz : d.size < 4611686018427387904) :
    Calls Try.prog 46 #[.slice (some ⟨blk, off, none⟩) d.size cap, .func (.func 47) #[] #[]] w fun e w' => e = .returned (.tuple #[]) ∧ ∃ d' n os, PermIn 0 d.size d d' ∧ SortedIn (ltOf cmpB) 0 d.size d' ∧ w' = sortWorldK encB 2 w blk off n d' os := by
  have eg : ∀ args w, (callFunc 47 args).run Try.prog w = .ok (.enter 47 args) w := enters_of Try.func47 (by kernel_rfl) rfl
  exact AnyQ.slices_SortFunc Try.sortBl 2 Try.isAgg39 Try.sizeOf39 encB (fun _ => rfl) (fun x v hv => by simp [encB] at hv; rcases hv with rfl | rfl <;> rfl) cmpB swoB 47 #[] blk off cap d w eg (cmpLaysB blk off d.size w) hH hblk hsz
end Bu
end Go.Proofs.Ytdanhbbdkcbapaa
