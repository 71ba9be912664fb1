/- DERIVED: THE SHELF's CONTRACTS AT THIS DUMP, IN PLAIN WORDS (tools/lay-plain.mjs out of 'YtjgakcpjphdicaaShCf0.lean', which tools/lay-shelf.mjs wrote): THE SAME DECLARATIONS UNDER THE SAME NAMES: 'import', 'namespace', 'open', 'def', 'theorem' AND NOTHING ELSE: no command of the shelf's: FOR A HAND-IN. Each laying: the table of numbers ('.._ren') and one theorem, a field a fact of the dump's own or the kernel's comparison; each contract: ONE APPLICATION. What Valid leans on: the closures, ContainsFunc, SortFunc. -/
import Derived.Shelf.SlLaysH
import Derived.Shelf.SlicesE.IndexFunc
import Derived.Ground.SlgfProg
import Derived.Test.YtjgakcpjphdicaaProg
import Derived.Test.YtjgakcpjphdicaaK7
import Derived.Test.YtjgakcpjphdicaaK15
import Derived.Shelf.SlSortCmp.NoneTotal
import Derived.Deep.QuietTactic
namespace Go.Proofs
open Go.Shelf
def Try.contF_ren : Go.Shelf.Ren := ⟨fun | 8 => 38 | 6 => 64 | n => n, fun | 22 => 24 | 23 => 2 | 25 => 62 | 4 => 4 | 3 => 3 | 0 => 0 | n => n, fun | n => n⟩
theorem Try.contF : Go.Proofs.SlLaysH.n8 Try.prog Try.contF_ren := {
  mixed := by kernel_rfl
  f6 := ⟨Try.f64.name, by decide, Try.func64.trans (congrArg some (by kernel_rfl))⟩
  f8 := ⟨Try.f38.name, by decide, Try.func38.trans (congrArg some (by kernel_rfl))⟩
  t0 := Try.underlying0
  a0 := Try.isAgg0
  z0 := Try.sizeOf0
  v0 := Try.zeroValue0
  t3 := Try.underlying3
  a3 := Try.isAgg3
  z3 := Try.sizeOf3
  v3 := Try.zeroValue3
  t4 := Try.underlying4
  a4 := Try.isAgg4
  z4 := Try.sizeOf4
  v4 := Try.zeroValue4
  t22 := Try.underlying24
  a22 := Try.isAgg24
  z22 := Try.sizeOf24
  v22 := Try.zeroValue24
  a23 := Try.isAgg2
  z23 := Try.sizeOf2
  t25 := Try.underlying62
  a25 := Try.isAgg62
  z25 := Try.sizeOf62
  v25 := Try.zeroValue62 }
end Go.Proofs
namespace Go.Proofs.Ytjgakcpjphdicaa
open Go.Shelf Go.RowKit Go.Lib Go.Sort
namespace Of


theorem farC_ok (p : Int) (w : World) : Calls Try.prog 39 #[.int .i64 p] w fun e w' => e = .returned (.bool (farB p)) ∧ w = w' := by
  unfold farB
  by_cases h : p < 0
  · go_enter Try.func39, Try.ntmps39
    go_wp2
    go_ret
    exact ⟨by simp [h], rfl⟩
  · go_enter Try.func39, Try.ntmps39
    go_wp2
    go_ret
    exact ⟨by rw [decide_eq_false (show ¬ p < 0 by omega)]; rfl, rfl⟩

set_option maxHeartbeats 1000000 in
theorem contF_ok (w : World) (A : Option Addr) (c : Nat) (M : List Int) (h : IAt w A c M) (hn : M.length ≤ 100000) :
    Calls Try.prog 38 #[.slice A M.length c, .func (.func 39) #[] #[]] w fun e w' => e = .returned (.bool (M.any farB)) ∧ ∃ q, w' = w.drewN q := by
  by_cases h0 : M = []
  · subst h0
    refine (AnyE.slices_ContainsFunc_empty Try.contF A c _ w).mono ?_
    rintro e w' ⟨rfl, rfl⟩
    exact ⟨rfl, 0, rfl⟩
  · obtain ⟨g, o, rfl, hg⟩ := h.head (List.length_pos_iff.2 h0)
    have eg : ∀ args w, (callFunc 39 args).run Try.prog w = .ok (.enter 39 args) w := enters_of Try.func39 (by kernel_rfl) rfl
    have := AnyE.slices_ContainsFunc Try.contF (Value.int .i64) farB 39 #[] eg g o M.length c M w (fun W x _ => (farC_ok x W).mono fun _ _ h => ⟨h.1, 0, h.2.symm⟩) (Nat.le_refl _) (by omega) (fun j hj => by
      obtain ⟨g', o', e1, _, e3⟩ := h.2.2 j _ (List.getElem?_eq_getElem hj)
      injection e1 with e1; injection e1 with e1 e2
      subst e1; subst e2
      rw [e3]; simp [hj])
    rw [List.take_length] at this
    exact this
/-- The closure by which Valid sorts. -/
theorem vcmp_ok (w : World) (bp g o c : Nat) (M : List Int) (hp : w.cell? ⟨bp, 0, none⟩ = some (.slice (some ⟨g, o, none⟩) M.length c)) (hM : IAt w (some ⟨g, o, none⟩) c M) (x y : Nat) (hx : x < M.length) (hy : y < M.length) :
    Calls Try.prog 42 #[.int .i64 (x : Int), .int .i64 (y : Int), .pointer (some ⟨bp, 0, none⟩)] w fun e w' => e = .returned (.int .i64 (cmpV (addr M x) (addr M y))) ∧ ∃ q, w' = w.drewN q := by
  obtain ⟨g', o', e1, _, cx⟩ := hM.at hx
  injection e1 with e1; injection e1 with e1 e2
  subst e1; subst e2
  obtain ⟨g', o', e1, _, cy⟩ := hM.at hy
  injection e1 with e1; injection e1 with e1 e2
  subst e1; subst e2
  clear hM
  generalize addr M x = a at *
  generalize addr M y = b at *
  go_enter Try.func42, Try.ntmps42
  go_wp2_with (fail)
  go_quiet ((go_at_call 43; exact Calls.quiet_of_same ((cmp64_ok a b _).mono fun _ _ h => ⟨h.1, h.2.symm⟩)))
  go_wp2
  go_ret
  exact ⟨rfl, _, rfl⟩

theorem cmpV_lt (a b : Int) : cmpV a b < 0 ↔ a < b := by unfold cmpV; split <;> (try split) <;> omega
theorem swoV {m : Nat} (f : Fin (m + 1) → Int) : SWO (ltOf fun x y => cmpV (f x) (f y)) where
  irrefl x := by unfold ltOf; simp [cmpV_lt]
  trans x y z h1 h2 := by unfold ltOf at *; simp only [decide_eq_true_eq, cmpV_lt] at *; omega
  ntrans x y z h1 h2 := by unfold ltOf at *; simp only [decide_eq_false_iff_not, cmpV_lt] at *; omega
end Of
end Go.Proofs.Ytjgakcpjphdicaa
