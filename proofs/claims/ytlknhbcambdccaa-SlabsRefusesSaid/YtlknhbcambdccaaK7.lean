/- What Alloc, Largest and Owner say of the blocks given. The comparison of sorted. DERIVED: THE SHELF's CONTRACTS AT THIS DUMP, IN PLAIN WORDS (tools/lay-plain.mjs out of 'YtlknhbcambdccaaShelf0.lean', which tools/lay-shelf.mjs wrote): THE SAME DECLARATIONS UNDER THE SAME NAMES: 'import', 'namespace', 'open', 'def', 'theorem' AND NOTHING ELSE: no command of the shelf's: FOR A HAND-IN. Each laying: the table of numbers ('.._ren') and one theorem, a field a fact of the dump's own or the kernel's comparison; each contract: ONE APPLICATION. SortFunc at the blocks. -/
import Derived.Test.YtlknhbcambdccaaK6
import Derived.Shelf.SlSortCmp.WholeK
import Derived.Shelf.SlicesG.Cmp
import Derived.Shelf.Small.Bits
import Derived.Ground.SlsfProg
import Derived.Ground.NamesProg
import Derived.Test.YtlknhbcambdccaaProg
namespace Go.Proofs.Ytlknhbcambdccaa
open Go.RowKit
namespace Bu

theorem least_some {S : Nat → Bool} {p : Nat} (h : least S = some p) : p < 1024 ∧ S p = true ∧ ∀ q, q < p → S q = false := by
  unfold least members at h
  rw [List.head?_filter, List.find?_range_eq_some] at h
  obtain ⟨h1, h2, h3⟩ := h
  exact ⟨List.mem_range.1 h2, h1, fun q hq => by simpa using h3 q hq⟩

theorem firstK_some {Fr : Nat → Nat → Bool} {j p : Nat} : ∀ (n k : Nat), firstK Fr k n = some (j, p) → k ≤ j ∧ j < k + n ∧ least (Fr j) = some p ∧ ∀ a, k ≤ a → a < j → least (Fr a) = none := by
  intro n
  induction n with
  | zero => intro k h; rw [firstK_zero] at h; cases h
  | succ n ih =>
    intro k h
    cases hl : least (Fr k) with
    | some q =>
      rw [firstK_cons hl] at h
      injection h with h
      injection h with h1 h2
      subst h1; subst h2
      exact ⟨Nat.le_refl _, by omega, hl, fun a h1 h2 => by omega⟩
    | none =>
      rw [firstK_nil hl] at h
      obtain ⟨h1, h2, h3, h4⟩ := ih _ h
      refine ⟨by omega, by omega, h3, fun a g1 g2 => ?_⟩
      by_cases e : a = k
      · subst e; exact hl
      · exact h4 a (by omega) g2
theorem firstK_none {Fr : Nat → Nat → Bool} : ∀ (n k : Nat), firstK Fr k n = none → ∀ a, k ≤ a → a < k + n → least (Fr a) = none := by
  intro n
  induction n with
  | zero => intro k _ a h1 h2; omega
  | succ n ih =>
    intro k h a h1 h2
    cases hl : least (Fr k) with
    | some q => rw [firstK_cons hl] at h; cases h
    | none =>
      rw [firstK_nil hl] at h
      by_cases e : a = k
      · subst e; exact hl
      · exact ih _ h a (by omega) (by omega)

/-- No set holds a free block: none is free. -/
theorem none_free {N : Nat} {Fr Gv : Nat → Nat → Bool} {G : Bl} (h : Sem N Fr Gv G) {k : Nat} (hk : k ≤ N) (hl : least (Fr k) = none) (i : Nat) : ¬ MaxFree G N k i := fun hM => by
  have hn := h.n10
  have hi : i * 2 ^ k < 1024 := by
    have h1 : i * 2 ^ k < 2 ^ (N - k) * 2 ^ k := Nat.mul_lt_mul_of_pos_right hM.2.1 (Nat.pow_pos (by decide))
    rw [← Nat.pow_add, Nat.sub_add_cancel hk] at h1
    have : 2 ^ N ≤ 2 ^ 10 := Nat.pow_le_pow_right (by omega) hn
    omega
  have h2 := (h.free k (i * 2 ^ k) (by omega) hi).2 ⟨Nat.mul_mod_left _ _, by rw [first]; exact hM⟩
  rw [least_none.1 hl _ hi] at h2
  cases h2

/-- What Alloc does. -/
def AllocG (b N order : Nat) (G : Bl) (w : World) (e : Ending) (w' : World) : Prop :=
  Grow1 b w w' ∧
  ((e = .returned (.tuple #[.int .i64 0, .int .i64 5]) ∧ Bud w' b N G ∧ ∀ i, i < 2 ^ (N - order) → order ≤ N → ¬ Free G order i) ∨
   ∃ k i, e = .returned (.tuple #[.int .i64 ((i * 2 ^ k : Nat) : Int), .int .i64 0]) ∧ order ≤ k ∧ MaxFree G N k i ∧ (∀ a, order ≤ a → a < k → ∀ j, ¬ MaxFree G N a j) ∧ (∀ j, MaxFree G N k j → i ≤ j) ∧
     Bud w' b N (add G order (i * 2 ^ (k - order))))

theorem alloc_sem (w : World) (b N order : Nat) (G : Bl) (h : Bud w b N G) (ho : order ≤ 10) :
    Calls Try.prog 39 #[.pointer (some ⟨b, 0, none⟩), .int .i64 order] w fun e w' => AllocG b N order G w e w' := by
  obtain ⟨Fr, Gv, h1, h2⟩ := h
  have hn := h2.n10
  refine (alloc_ok w b N order Fr Gv h1 hn ho).mono ?_
  intro e w' hR
  cases hk : firstK Fr order (N + 1 - order) with
  | none =>
    rw [hk] at hR
    obtain ⟨he, hG, hB⟩ := hR
    refine ⟨hG, .inl ⟨he, ⟨Fr, Gv, hB, h2⟩, fun i hi hoN hf => ?_⟩⟩
    obtain ⟨m, hm⟩ := around hoN hi hf
    exact none_free h2 hm.1 (firstK_none _ _ hk (order + m) (by omega) (by have := hm.1; omega)) _ hm
  | some r =>
    obtain ⟨k, p⟩ := r
    rw [hk] at hR
    obtain ⟨he, hG, hB, hk1, hk2, hp, hFp⟩ := hR
    obtain ⟨_, _, hl, hmin⟩ := firstK_some _ _ hk
    obtain ⟨_, _, hlow⟩ := least_some hl
    obtain ⟨hmod, hM⟩ := (h2.free k p (by omega) hp).1 hFp
    have hpe : p / 2 ^ k * 2 ^ k = p := mul_of_mod hmod
    obtain ⟨m, rfl⟩ := Nat.exists_eq_add_of_le hk1
    have hmod2 : p % 2 ^ order = 0 := by
      rw [← hpe, Nat.pow_add, Nat.mul_comm (2 ^ order), ← Nat.mul_assoc]
      exact Nat.mul_mod_left _ _
    have hdiv : p / 2 ^ order = p / 2 ^ (order + m) * 2 ^ m := by
      obtain ⟨q, hq⟩ : ∃ q, q = p / 2 ^ (order + m) := ⟨_, rfl⟩
      rw [← hq] at hpe ⊢
      rw [← hpe, Nat.pow_add, Nat.mul_comm (2 ^ order), ← Nat.mul_assoc, first]
    refine ⟨hG, .inr ⟨order + m, p / 2 ^ (order + m), by rw [hpe]; exact he, hk1, hM, fun a g1 g2 j => none_free h2 (by omega) (hmin a g1 g2) j, fun j hj => ?_, ?_⟩⟩
    · refine Nat.le_of_not_lt fun hlt => ?_
      have hjp : j * 2 ^ (order + m) < p := by
        rw [← hpe]
        exact Nat.mul_lt_mul_of_pos_right hlt (Nat.pow_pos (by decide))
      have h3 := (h2.free (order + m) (j * 2 ^ (order + m)) (by omega) (by omega)).2 ⟨Nat.mul_mod_left _ _, by rw [first]; exact hj⟩
      rw [hlow _ hjp] at h3
      cases h3
    · have hS := sem_carved h2 hmod2 hk1 hk2 hM
      rw [hdiv] at hS
      rw [show order + m - order = m by omega]
      exact ⟨_, _, hB, hS⟩
end Bu
end Go.Proofs.Ytlknhbcambdccaa
namespace Go.Proofs.Ytlknhbcambdccaa
open Go.RowKit
namespace Bu

set_option maxHeartbeats 1000000 in
theorem less_ok (w : World) (p q : Nat) (a c : Int) (hp : p < 1024) (hq : q < 1024) :
    Calls Try.prog 77 #[.agg #[.int .i64 (p : Int), .int .i64 a], .agg #[.int .i64 (q : Int), .int .i64 c]] w fun e w' => e = .returned (.int .i64 ((p : Int) - (q : Int))) ∧ Below w.heap.size w w' := by
  obtain ⟨W1, hW1⟩ : ∃ W1, W1 = (w.alloc (.cells #[.int .i64 (p : Int), .int .i64 a] 126)).alloc (.cells #[.int .i64 (q : Int), .int .i64 c] 126) := ⟨_, rfl⟩
  have hb : Below w.heap.size w W1 := by rw [hW1]; exact ((Below.refl _ _).alloc (Nat.le_refl _) _).alloc (by simp) _
  have x1 : W1.heap[w.heap.size]? = some (.cells #[.int .i64 (p : Int), .int .i64 a] 126 (0, 0)) := by rw [hW1, heapAlloc, if_neg (by simp), heapAlloc, if_pos rfl]
  have x2 : W1.heap[w.heap.size + 1]? = some (.cells #[.int .i64 (q : Int), .int .i64 c] 126 (0, 0)) := by rw [hW1, heapAlloc, if_pos (by simp)]
  obtain ⟨c1, _, _, _⟩ := two_cells x1
  obtain ⟨c2, _, _, _⟩ := two_cells x2
  have hw : IntKind.i64.wrap ((p : Int) - (q : Int)) = (p : Int) - (q : Int) := IntWalk.i64_in _ (by omega)
  have e1 : (p : Int) < 1024 := by omega
  have e2 : (q : Int) < 1024 := by omega
  have HB := Lib.hid hb
  clear hb x1 x2
  go_enter Try.func77, Try.ntmps77
  go_wp2_with (fail)
  rw [← hW1]
  clear hW1
  go_wp2
  go_ret
  exact ⟨rfl, HB.out⟩
end Bu
end Go.Proofs.Ytlknhbcambdccaa
namespace Go.Proofs
open Go.Shelf
def Try.sortBl_ren : Go.Shelf.Ren := ⟨fun | 6 => 76 | 15 => 97 | 14 => 96 | 28 => 111 | 29 => 112 | 20 => 103 | 21 => 104 | 22 => 105 | 23 => 106 | 24 => 107 | 25 => 108 | 26 => 109 | 27 => 110 | 46 => 114 | 47 => 115 | 48 => 116 | 49 => 117 | 50 => 118 | 57 => 119 | n => n, fun | 22 => 44 | 24 => 126 | 25 => 147 | 3 => 3 | 39 => 119 | 0 => 0 | 53 => 176 | 55 => 58 | 4 => 4 | 46 => 170 | 45 => 169 | 50 => 142 | 5 => 5 | 9 => 9 | 66 => 179 | 70 => 183 | 76 => 185 | 77 => 152 | n => n, fun | n => n⟩
theorem Try.sortBl : Go.Proofs.SlLaysF0.n6 Try.prog Try.sortBl_ren := {
  mixed := by kernel_rfl
  f6 := ⟨Try.f76.name, by decide, Try.func76.trans (congrArg some (by kernel_rfl))⟩
  f14 := ⟨Try.f96.name, by decide, Try.func96.trans (congrArg some (by kernel_rfl))⟩
  f15 := Try.func97.trans (congrArg some (by kernel_rfl))
  f20 := ⟨Try.f103.name, by decide, Try.func103.trans (congrArg some (by kernel_rfl))⟩
  f21 := ⟨Try.f104.name, by decide, Try.func104.trans (congrArg some (by kernel_rfl))⟩
  f22 := ⟨Try.f105.name, by decide, Try.func105.trans (congrArg some (by kernel_rfl))⟩
  f23 := ⟨Try.f106.name, by decide, Try.func106.trans (congrArg some (by kernel_rfl))⟩
  f24 := ⟨Try.f107.name, by decide, Try.func107.trans (congrArg some (by kernel_rfl))⟩
  f25 := ⟨Try.f108.name, by decide, Try.func108.trans (congrArg some (by kernel_rfl))⟩
  f26 := ⟨Try.f109.name, by decide, Try.func109.trans (congrArg some (by kernel_rfl))⟩
  f27 := ⟨Try.f110.name, by decide, Try.func110.trans (congrArg some (by kernel_rfl))⟩
  f28 := Try.func111.trans (congrArg some (by kernel_rfl))
  f29 := Try.func112.trans (congrArg some (by kernel_rfl))
  f46 := ⟨Try.f114.name, by decide, Try.func114.trans (congrArg some (by kernel_rfl))⟩
  f47 := Try.func115.trans (congrArg some (by kernel_rfl))
  f48 := Try.func116.trans (congrArg some (by kernel_rfl))
  f49 := ⟨Try.f117.name, by decide, Try.func117.trans (congrArg some (by kernel_rfl))⟩
  f50 := ⟨Try.f118.name, by decide, Try.func118.trans (congrArg some (by kernel_rfl))⟩
  f57 := ⟨Try.f119.name, by decide, Try.func119.trans (congrArg some (by kernel_rfl))⟩
  t0 := Try.underlying0
  a0 := Try.isAgg0
  z0 := Try.sizeOf0
  v0 := Try.zeroValue0
  t3 := Try.underlying3
  a3 := Try.isAgg3
  z3 := Try.sizeOf3
  v3 := Try.zeroValue3
  t4 := Try.underlying4
  a4 := Try.isAgg4
  z4 := Try.sizeOf4
  v4 := Try.zeroValue4
  t5 := Try.underlying5
  a5 := Try.isAgg5
  z5 := Try.sizeOf5
  v5 := Try.zeroValue5
  t9 := Try.underlying9
  a9 := Try.isAgg9
  z9 := Try.sizeOf9
  v9 := Try.zeroValue9
  t22 := Try.underlying44
  a22 := Try.isAgg44
  z22 := Try.sizeOf44
  v22 := Try.zeroValue44
  t25 := Try.underlying147
  a25 := Try.isAgg147
  z25 := Try.sizeOf147
  v25 := Try.zeroValue147
  t39 := Try.underlying119
  a39 := Try.isAgg119
  z39 := Try.sizeOf119
  v39 := Try.zeroValue119
  t45 := Try.underlying169
  a45 := Try.isAgg169
  z45 := Try.sizeOf169
  v45 := Try.zeroValue169
  t46 := Try.underlying170
  a46 := Try.isAgg170
  z46 := Try.sizeOf170
  v46 := Try.zeroValue170
  t50 := Try.underlying142
  a50 := Try.isAgg142
  z50 := Try.sizeOf142
  v50 := Try.zeroValue142
  t53 := Try.underlying176
  a53 := Try.isAgg176
  z53 := Try.sizeOf176
  v53 := Try.zeroValue176
  t55 := Try.underlying58
  a55 := Try.isAgg58
  z55 := Try.sizeOf58
  v55 := Try.zeroValue58
  t66 := Try.underlying179
  a66 := Try.isAgg179
  z66 := Try.sizeOf179
  v66 := Try.zeroValue179
  t70 := Try.underlying183
  a70 := Try.isAgg183
  z70 := Try.sizeOf183
  v70 := Try.zeroValue183
  t76 := Try.underlying185
  a76 := Try.isAgg185
  z76 := Try.sizeOf185
  v76 := Try.zeroValue185
  t77 := Try.underlying152
  a77 := Try.isAgg152
  z77 := Try.sizeOf152
  v77 := Try.zeroValue152 }
def Try.bitsLenB_ren : Go.Shelf.Ren := ⟨fun | 125 => 97 | 128 => 111 | 129 => 112 | n => n, fun | 46 => 119 | 3 => 3 | 51 => 176 | 53 => 58 | 4 => 4 | 5 => 5 | 9 => 9 | n => n, fun | n => n⟩
theorem Try.bitsLenB : Go.Proofs.Lays.n125 Try.prog Try.bitsLenB_ren := {
  mixed := by kernel_rfl
  f125 := Try.func97.trans (congrArg some (by kernel_rfl))
  f128 := Try.func111.trans (congrArg some (by kernel_rfl))
  f129 := Try.func112.trans (congrArg some (by kernel_rfl))
  t3 := Try.underlying3
  a3 := Try.isAgg3
  z3 := Try.sizeOf3
  v3 := Try.zeroValue3
  t4 := Try.underlying4
  a4 := Try.isAgg4
  z4 := Try.sizeOf4
  v4 := Try.zeroValue4
  t5 := Try.underlying5
  a5 := Try.isAgg5
  z5 := Try.sizeOf5
  v5 := Try.zeroValue5
  t9 := Try.underlying9
  a9 := Try.isAgg9
  z9 := Try.sizeOf9
  v9 := Try.zeroValue9
  t46 := Try.underlying119
  a46 := Try.isAgg119
  z46 := Try.sizeOf119
  v46 := Try.zeroValue119
  t51 := Try.underlying176
  a51 := Try.isAgg176
  z51 := Try.sizeOf176
  v51 := Try.zeroValue176
  t53 := Try.underlying58
  a53 := Try.isAgg58
  z53 := Try.sizeOf58
  v53 := Try.zeroValue58 }
end Go.Proofs
namespace Go.Proofs.Ytlknhbcambdccaa
open Go.Shelf Go.RowKit Go.Lib Go.Sort
namespace Bu

abbrev PB := Fin 1024 × Fin 11
/-- A block's two cells. -/
def encB (x : PB) : List Value := [.int .i64 ((x.1.val : Nat) : Int), .int .i64 ((x.2.val : Nat) : Int)]
def cmpB (x y : PB) : Int := (x.1.val : Int) - (y.1.val : Int)

set_option maxHeartbeats 1000000 in
theorem closureB (x y : PB) (W : World) : Calls Try.prog 77 #[.agg #[.int .i64 ((x.1.val : Nat) : Int), .int .i64 ((x.2.val : Nat) : Int)], .agg #[.int .i64 ((y.1.val : Nat) : Int), .int .i64 ((y.2.val : Nat) : Int)]] W
    fun e w' => e = .returned (.int .i64 (cmpB x y)) ∧ ∃ q os', w' = grow (W.drewN q) os' := by
  have hp := x.1.isLt
  have hq := y.1.isLt
  unfold cmpB
  generalize x.1.val = p at *
  generalize y.1.val = q at *
  generalize ((x.2.val : Nat) : Int) = a at *
  generalize ((y.2.val : Nat) : Int) = c at *
  have e1 : (p : Int) < 1024 := by omega
  have e2 : (q : Int) < 1024 := by omega
  have hw : IntKind.i64.wrap ((p : Int) - (q : Int)) = (p : Int) - (q : Int) := IntWalk.i64_in _ (by omega)
  go_enter Try.func77, Try.ntmps77
  go_wp2
  go_ret
  exact ⟨rfl, 0, _, by rw [alloc_eq_grow, alloc_eq_grow, grow_grow]; rfl⟩

theorem cmpLaysB (blk off size : Nat) (w : World) : CmpLays Try.prog 77 #[] encB 2 cmpB blk off size w :=
  fun _ _ _ _ x y => closureB x y _

theorem ltB (x y : PB) : ltOf cmpB x y = decide (x.1.val < y.1.val) := by
  unfold ltOf cmpB
  by_cases h : x.1.val < y.1.val
  · simp [h]; omega
  · simp [h]; omega

theorem swoB : SWO (ltOf cmpB) where
  irrefl x := by rw [ltB]; simp
  trans x y z h1 h2 := by rw [ltB] at *; simp at *; omega
  ntrans x y z h1 h2 := by rw [ltB] at *; simp at *; omega

theorem sort_ok (blk off cap : Nat) (d : Array PB) (w : World) (hH : HoldsK encB 2 w blk off d) (hblk : blk < w.heap.size) (hsz : d.size < 4611686018427387904) :
    Calls Try.prog 76 #[.slice (some ⟨blk, off, none⟩) d.size cap, .func (.func 77) #[] #[]] w fun e w' => e = .returned (.tuple #[]) ∧ ∃ d' n os, PermIn 0 d.size d d' ∧ SortedIn (ltOf cmpB) 0 d.size d' ∧ w' = sortWorldK encB 2 w blk off n d' os := by
  have eg : ∀ args w, (callFunc 77 args).run Try.prog w = .ok (.enter 77 args) w := enters_of Try.func77 (by kernel_rfl) rfl
  exact AnyQ.slices_SortFunc Try.sortBl 2 Try.isAgg126 Try.sizeOf126 encB (fun _ => rfl) (fun x v hv => by simp [encB] at hv; rcases hv with rfl | rfl <;> rfl) cmpB swoB 77 #[] blk off cap d w eg (cmpLaysB blk off d.size w) hH hblk hsz
end Bu
end Go.Proofs.Ytlknhbcambdccaa
