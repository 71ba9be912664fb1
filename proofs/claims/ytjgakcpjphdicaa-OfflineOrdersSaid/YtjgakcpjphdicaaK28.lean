/- DERIVED: THE SHELF's CONTRACTS AT THIS DUMP, IN PLAIN WORDS (tools/lay-plain.mjs out of 'YtjgakcpjphdicaaShNm0.lean', which tools/lay-shelf.mjs wrote): THE SAME DECLARATIONS UNDER THE SAME NAMES: 'import', 'namespace', 'open', 'def', 'theorem' AND NOTHING ELSE: no command of the shelf's: FOR A HAND-IN. Each laying: the table of numbers ('.._ren') and one theorem, a field a fact of the dump's own or the kernel's comparison; each contract: ONE APPLICATION. slices.Collect, slices.Sorted. -/
import Derived.Shelf.Slices.Turned
import Derived.Shelf.Slices.Clone
import Derived.Shelf.Slices.Equal
import Derived.Shelf.Slices.Empties2
import Derived.Shelf.Sort.Plain
import Derived.Ground.NamesProg
import Derived.Ground.Names2Prog
import Derived.Test.YtjgakcpjphdicaaProg
import Derived.Test.YtjgakcpjphdicaaK27
import Derived.Shelf.Slices.In.SortNone
import Derived.Lib.SlKeysI
namespace Go.Proofs
open Go.Shelf
def Try.contI_ren : Go.Shelf.Ren := ⟨fun | 107 => 61 | 108 => 74 | n => n, fun | 28 => 25 | 3 => 3 | 4 => 4 | 0 => 0 | n => n, fun | n => n⟩
theorem Try.contI : Go.Proofs.Lays.n107 Try.prog Try.contI_ren := {
  mixed := by kernel_rfl
  f107 := Try.func61.trans (congrArg some (by kernel_rfl))
  f108 := Try.func74.trans (congrArg some (by kernel_rfl))
  t0 := Try.underlying0
  a0 := Try.isAgg0
  z0 := Try.sizeOf0
  v0 := Try.zeroValue0
  t3 := Try.underlying3
  a3 := Try.isAgg3
  z3 := Try.sizeOf3
  v3 := Try.zeroValue3
  t4 := Try.underlying4
  a4 := Try.isAgg4
  z4 := Try.sizeOf4
  v4 := Try.zeroValue4
  t28 := Try.underlying25
  a28 := Try.isAgg25
  z28 := Try.sizeOf25
  v28 := Try.zeroValue25 }
def Try.cloneI_ren : Go.Shelf.Ren := ⟨fun | 15 => 34 | n => n, fun | 22 => 25 | 3 => 3 | 4 => 4 | n => n, fun | n => n⟩
theorem Try.cloneI : Go.Proofs.Lays2.n15 Try.prog Try.cloneI_ren := {
  mixed := by kernel_rfl
  f15 := Try.func34.trans (congrArg some (by kernel_rfl))
  t3 := Try.underlying3
  a3 := Try.isAgg3
  z3 := Try.sizeOf3
  v3 := Try.zeroValue3
  t4 := Try.underlying4
  a4 := Try.isAgg4
  z4 := Try.sizeOf4
  v4 := Try.zeroValue4
  t22 := Try.underlying25
  a22 := Try.isAgg25
  z22 := Try.sizeOf25
  v22 := Try.zeroValue25
  i3 := by kernel_rfl }
def Try.equalI_ren : Go.Shelf.Ren := ⟨fun | 111 => 55 | n => n, fun | 28 => 25 | 3 => 3 | 4 => 4 | 0 => 0 | n => n, fun | n => n⟩
theorem Try.equalI : Go.Proofs.Lays.n111 Try.prog Try.equalI_ren := {
  mixed := by kernel_rfl
  f111 := Try.func55.trans (congrArg some (by kernel_rfl))
  t0 := Try.underlying0
  a0 := Try.isAgg0
  z0 := Try.sizeOf0
  v0 := Try.zeroValue0
  t3 := Try.underlying3
  a3 := Try.isAgg3
  z3 := Try.sizeOf3
  v3 := Try.zeroValue3
  t4 := Try.underlying4
  a4 := Try.isAgg4
  z4 := Try.sizeOf4
  v4 := Try.zeroValue4
  t28 := Try.underlying25
  a28 := Try.isAgg25
  z28 := Try.sizeOf25
  v28 := Try.zeroValue25 }
def Try.sortO_ren : Go.Shelf.Ren := ⟨fun | 189 => 72 | 125 => 66 | 257 => 90 | 128 => 86 | 129 => 87 | 294 => 97 | 295 => 98 | 296 => 99 | 297 => 100 | 298 => 101 | 299 => 102 | 216 => 103 | 300 => 104 | 301 => 105 | 328 => 108 | 329 => 92 | 330 => 93 | 331 => 109 | 332 => 110 | 215 => 70 | 343 => 111 | n => n, fun | 28 => 25 | 3 => 3 | 46 => 92 | 0 => 0 | 51 => 109 | 53 => 76 | 4 => 4 | 183 => 103 | 182 => 102 | 131 => 98 | 5 => 5 | 9 => 9 | 218 => 112 | 222 => 116 | 228 => 124 | 229 => 125 | n => n, fun | n => n⟩
theorem Try.sortO : Go.Proofs.Lays.n189 Try.prog Try.sortO_ren := {
  mixed := by kernel_rfl
  f125 := Try.func66.trans (congrArg some (by kernel_rfl))
  f128 := Try.func86.trans (congrArg some (by kernel_rfl))
  f129 := Try.func87.trans (congrArg some (by kernel_rfl))
  f189 := Try.func72.trans (congrArg some (by kernel_rfl))
  f215 := Try.func70.trans (congrArg some (by kernel_rfl))
  f216 := Try.func103.trans (congrArg some (by kernel_rfl))
  f257 := Try.func90.trans (congrArg some (by kernel_rfl))
  f294 := Try.func97.trans (congrArg some (by kernel_rfl))
  f295 := Try.func98.trans (congrArg some (by kernel_rfl))
  f296 := Try.func99.trans (congrArg some (by kernel_rfl))
  f297 := Try.func100.trans (congrArg some (by kernel_rfl))
  f298 := Try.func101.trans (congrArg some (by kernel_rfl))
  f299 := Try.func102.trans (congrArg some (by kernel_rfl))
  f300 := Try.func104.trans (congrArg some (by kernel_rfl))
  f301 := Try.func105.trans (congrArg some (by kernel_rfl))
  f328 := Try.func108.trans (congrArg some (by kernel_rfl))
  f329 := Try.func92.trans (congrArg some (by kernel_rfl))
  f330 := Try.func93.trans (congrArg some (by kernel_rfl))
  f331 := Try.func109.trans (congrArg some (by kernel_rfl))
  f332 := Try.func110.trans (congrArg some (by kernel_rfl))
  f343 := Try.func111.trans (congrArg some (by kernel_rfl))
  t0 := Try.underlying0
  a0 := Try.isAgg0
  z0 := Try.sizeOf0
  v0 := Try.zeroValue0
  t3 := Try.underlying3
  a3 := Try.isAgg3
  z3 := Try.sizeOf3
  v3 := Try.zeroValue3
  t4 := Try.underlying4
  a4 := Try.isAgg4
  z4 := Try.sizeOf4
  v4 := Try.zeroValue4
  t5 := Try.underlying5
  a5 := Try.isAgg5
  z5 := Try.sizeOf5
  v5 := Try.zeroValue5
  t9 := Try.underlying9
  a9 := Try.isAgg9
  z9 := Try.sizeOf9
  v9 := Try.zeroValue9
  t28 := Try.underlying25
  a28 := Try.isAgg25
  z28 := Try.sizeOf25
  v28 := Try.zeroValue25
  t46 := Try.underlying92
  a46 := Try.isAgg92
  z46 := Try.sizeOf92
  v46 := Try.zeroValue92
  t51 := Try.underlying109
  a51 := Try.isAgg109
  z51 := Try.sizeOf109
  v51 := Try.zeroValue109
  t53 := Try.underlying76
  a53 := Try.isAgg76
  z53 := Try.sizeOf76
  v53 := Try.zeroValue76
  t131 := Try.underlying98
  a131 := Try.isAgg98
  z131 := Try.sizeOf98
  v131 := Try.zeroValue98
  t182 := Try.underlying102
  a182 := Try.isAgg102
  z182 := Try.sizeOf102
  v182 := Try.zeroValue102
  t183 := Try.underlying103
  a183 := Try.isAgg103
  z183 := Try.sizeOf103
  v183 := Try.zeroValue103
  t218 := Try.underlying112
  a218 := Try.isAgg112
  z218 := Try.sizeOf112
  v218 := Try.zeroValue112
  t222 := Try.underlying116
  a222 := Try.isAgg116
  z222 := Try.sizeOf116
  v222 := Try.zeroValue116
  t228 := Try.underlying124
  a228 := Try.isAgg124
  z228 := Try.sizeOf124
  v228 := Try.zeroValue124
  t229 := Try.underlying125
  a229 := Try.isAgg125
  z229 := Try.sizeOf125
  v229 := Try.zeroValue125 }
end Go.Proofs
namespace Go.Proofs.Ytjgakcpjphdicaa
open Go.RowKit Go.Shelf Go.Sort
namespace Of

set_option maxRecDepth 100000 in
set_option maxHeartbeats 2000000 in
theorem collect_ok (w : World) (b1 : Nat) (A : Option Addr) (cap : Nat) (M : List Int) (hb1 : b1 < w.heap.size) (hc1 : w.cell? ⟨b1, 0, none⟩ = some (.slice A M.length cap)) (hM : IAt w A cap M) (hne : M ≠ [] → ∀ g, A.map (·.block) = some g → g ≠ b1) (hlen : M.length ≤ 100000) :
    Calls Try.prog 71 #[.func (.func 73) #[] #[.pointer (some ⟨b1, 0, none⟩)]] w fun e w' => (∃ A' c', e = .returned (.slice A' M.length c') ∧ OwnI w' w.heap.size 3 A' c' M) ∧ Below w.heap.size w w' := by
  have HA := Lib.hid (appendSeq_ok w b1 A cap M hb1 hc1 hM hne hlen)
  clear hc1 hM hne
  go_enter Try.func71, Try.ntmps71
  go_wp2_with (go_at_call 89; refine HA.out.mono ?_; rintro e w' ⟨⟨A', c', rfl, hr⟩, hb⟩; have HR := Lib.hid (And.intro hr hb); clear hr hb)
  go_ret
  exact ⟨⟨A', c', rfl, HR.out.1⟩, HR.out.2⟩
abbrev srt (M : List Int) : List Int := M.mergeSort fun x y => decide (x ≤ y)
set_option maxRecDepth 100000 in
set_option maxHeartbeats 2000000 in
theorem sorted_ok (w : World) (b1 : Nat) (A : Option Addr) (cap : Nat) (M : List Int) (hb1 : b1 < w.heap.size) (hc1 : w.cell? ⟨b1, 0, none⟩ = some (.slice A M.length cap)) (hM : IAt w A cap M) (hne : M ≠ [] → ∀ g, A.map (·.block) = some g → g ≠ b1) (hlen : M.length ≤ 100000) :
    Calls Try.prog 56 #[.func (.func 73) #[] #[.pointer (some ⟨b1, 0, none⟩)]] w fun e w' => (∃ A' c', e = .returned (.slice A' M.length c') ∧ OwnI w' w.heap.size 3 A' c' (srt M)) ∧ Below w.heap.size w w' := by
  have HA := Lib.hid (collect_ok w b1 A cap M hb1 hc1 hM hne hlen)
  have hsl : (srt M).length = M.length := List.length_mergeSort _
  have HL := Lib.hid hsl
  clear hc1 hM hne hsl
  go_enter Try.func56, Try.ntmps56
  go_wp2_with (go_at_call 71; refine HA.out.mono ?_; rintro e w1 ⟨⟨A', c', rfl, hr⟩, hb⟩; have HR := Lib.hid (And.intro hr hb); clear hr hb)
  by_cases h0 : M = []
  · subst h0
    go_wp2_with (go_at_call 72; refine (Any.slices_Sort_int_none { Try.sortO with } A' c' w1).mono ?_; rintro e w2 ⟨rfl, rfl⟩)
    go_ret
    exact ⟨⟨A', c', rfl, by rw [show srt [] = [] by simp [srt]]; exact HR.out.1⟩, HR.out.2⟩
  · rcases HR.out.1.2 with ⟨h1, hz⟩ | ⟨gb, cap2, cur, h1, hbase, hgb, r1, r2, r3, r4⟩
    · exact absurd (List.eq_nil_of_length_eq_zero hz) h0
    · injection h1 with h1 h2 h3
      subst h1; subst h3
      have hH : Holds (Value.int .i64) w1 gb 0 M.toArray := holds_of_block_i hgb (by rw [Nat.mul_one] at r4; exact r4)
      have hgl : gb < w1.heap.size := (Array.getElem?_eq_some_iff.1 hgb).1
      have HS := Lib.hid (Any.slices_Sort_int { Try.sortO with } gb 0 c' M w1 hH hgl (by omega))
      have HG := Lib.hid (And.intro hgb (And.intro r1 (And.intro r2 (And.intro r3 hbase))))
      clear hH hgb r1 r2 r3 r4 hbase
      go_wp2_with (go_at_call 72; refine HS.out.mono ?_; rintro e w2 ⟨rfl, nn, os, hw2⟩; have HW := Lib.hid hw2; clear hw2)
      go_ret
      have hw := HW.out
      subst hw
      refine ⟨⟨_, c', rfl, ?_⟩, HR.out.2.grown (grownBy_sorted_i _) HR.out.2.size (fun j hj => by cases hj; exact HG.out.2.2.2.2)⟩
      have := ownsRow_sorted_i (ts := srt M) (n := nn) (os := os) HL.out HG.out.2.2.2.2 HG.out.1 HG.out.2.1 HG.out.2.2.1 HG.out.2.2.2.1
      unfold OwnI
      rw [HL.out]
      exact this
end Of
end Go.Proofs.Ytjgakcpjphdicaa
