/- Sorting the pairs of value and length. -/
import Derived.Test.YtionocafkaemiaaDoorJS1
import Derived.Test.YtionocafkaemiaaDoorJS2
import Derived.Test.YtionocafkaemiaaDoorJR1
import Derived.Test.YtionocafkaemiaaDoorJA13
import Derived.Test.YtionocafkaemiaaDoorK2
namespace Go.Proofs.YtionocafkaemiaaDoor
open Go.RowKit Go.Shelf Go.Lib Go.Sort
namespace Sx

theorem alloc2_grow (w : World) (o1 o2 : Obj) : (w.alloc o1).alloc o2 = grow (w.drewN 0) #[o1, o2] := by
  rw [alloc_eq_grow, alloc_eq_grow, grow_grow]; rfl
abbrev epr (x : Pr) : List Value := [.int .i64 x.1, .int .i64 x.2]
theorem EPR : Enc epr 2 := ⟨by omega, fun _ => rfl, fun x u h => by
  simp only [List.mem_cons, List.not_mem_nil, or_false] at h
  rcases h with rfl | rfl <;> rfl⟩
theorem pair_info : (Tryd.prog.info? 76).map (fun i => (i.zero.isSome, i.zero.map (fun z => z.cells.size), i.size, i.bytes)) = some (true, some 2, 2, 16) := by kernel_rfl
def qcmp (x y : Pr) : Int := cmpV x.1 y.1
theorem qcmp_ok (x y : Pr) (w : World) : Calls Tryd.prog 46 #[.agg (epr x).toArray, .agg (epr y).toArray] w fun e w' => e = .returned (.int .i64 (qcmp x y)) ∧ ∃ q os', w' = grow (w.drewN q) os' := by
  obtain ⟨h1, h2⟩ := two_boxes w #[.int .i64 x.1, .int .i64 x.2] #[.int .i64 y.1, .int .i64 y.2] 76 76
  have HG := Lib.hid (alloc2_grow w (.cells #[.int .i64 x.1, .int .i64 x.2] 76) (.cells #[.int .i64 y.1, .int .i64 y.2] 76))
  unfold qcmp
  have HX := Lib.hid (And.intro h1 h2)
  clear h1 h2
  go_enter Tryd.func46, Tryd.ntmps46
  go_upto_region 1 with (fail)
  generalize (w.alloc (.cells #[.int .i64 x.1, .int .i64 x.2] 76)).alloc (.cells #[.int .i64 y.1, .int .i64 y.2] 76) = V at *
  obtain ⟨x0, x1⟩ := two_at HX.out.1
  obtain ⟨y0, y1⟩ := two_at HX.out.2
  go_wp2_with (go_at_call 47; refine (cmp64_ok _ _ _).mono ?_; rintro e w1 ⟨rfl, rfl⟩)
  go_ret
  exact ⟨rfl, 0, _, HG.out⟩
theorem ltQ (x y : Pr) : ltOf qcmp x y = decide (x.1 < y.1) := by
  unfold ltOf qcmp
  rw [Bool.eq_iff_iff]
  simp only [decide_eq_true_eq, cmpV_lt]
theorem swoQ : SWO (ltOf qcmp) where
  irrefl x := by rw [ltQ]; simp
  trans x y z h1 h2 := by rw [ltQ] at *; simp at *; omega
  ntrans x y z h1 h2 := by rw [ltQ] at *; simp at *; omega
/-- The pairs, sorted by value. -/
theorem sortP_ok (w : World) (B T c : Nat) (A : Option Addr) (L : List Pr) (hl : L.length ≤ 1000) (hr : OwnE epr 2 w B T A c L) :
    Calls Tryd.prog 45 #[.slice A L.length c, .func (.func 46) #[] #[]] w fun e w' => e = .returned (.tuple #[]) ∧
      (∃ L' : List Pr, L'.Perm L ∧ (L'.Pairwise fun x y => x.1 ≤ y.1) ∧ OwnE epr 2 w' B T A c L') ∧ RowOnly A w w' := by
  have eg : ∀ args w, (callFunc 46 args).run Tryd.prog w = .ok (.enter 46 args) w := enters_of Tryd.func46 (by kernel_rfl) rfl
  refine (sort_rows EPR Tryd.sortP Tryd.isAgg76 Tryd.sizeOf76 qcmp swoQ 46 eg (fun x y W => qcmp_ok x y W) w B T c A L hr (by omega)).mono ?_
  rintro e w' ⟨he, L', h1, h2, h3, h4⟩
  refine ⟨he, ⟨L', h1, h2.imp fun {a b} h => ?_, h3⟩, h4⟩
  rw [ltQ] at h
  simp at h
  exact h
end Sx
end Go.Proofs.YtionocafkaemiaaDoor
