/- The program: the steps in their order. -/
import Derived.Test.YtnkkhbmbbkmfhaaJA14
namespace Go.Proofs.Ytnkkhbmbbkmfhaa
open Go.Shelf Go.RowKit Go.Sort Go.Lib
namespace Py

abbrev est (x : St) : List Value := [.int .i64 x.a, .bool x.b, .int .i64 x.p]
theorem EST : Enc est 3 := ⟨by omega, fun _ => rfl, fun x u h => by
  simp only [est, List.mem_cons, List.not_mem_nil, or_false] at h
  rcases h with rfl | rfl | rfl <;> rfl⟩
theorem step_info : (Try.prog.info? 95).map (fun i => (i.zero.isSome, i.zero.map (fun z => z.cells.size), i.size)) = some (true, some 3, 3) := by kernel_rfl
theorem scmp_lt (x y : St) : scmp x y < 0 ↔ slt x y := by
  obtain ⟨a, b, p⟩ := x
  obtain ⟨a', b', p'⟩ := y
  unfold scmp slt
  dsimp only
  by_cases h : a = a'
  · rw [if_neg (by simp [h])]
    cases b <;> cases b' <;> simp [h, cmpV_lt]
  · rw [if_pos h, cmpV_lt]; omega
theorem ltS (x y : St) : ltOf scmp x y = sltb x y := by
  rw [Bool.eq_iff_iff, sltb_iff, ← scmp_lt]; unfold ltOf; simp
theorem swoS : SWO (ltOf scmp) where
  irrefl x := by
    rw [ltS]
    cases e : sltb x x with
    | false => rfl
    | true => exact (slt_asymm (sltb_iff.1 e) (sltb_iff.1 e)).elim
  trans x y z h1 h2 := by rw [ltS] at *; exact sltb_iff.2 (slt_trans (sltb_iff.1 h1) (sltb_iff.1 h2))
  ntrans x y z h1 h2 := by
    rw [ltS] at *
    cases e : sltb x z with
    | false => rfl
    | true =>
      have h3 := sltb_iff.1 e
      rcases slt_total (x := x) (y := y) (fun hc => by rw [sltb_iff.2 hc] at h1; cases h1) with h4 | h4
      · rw [sltb_iff.2 (slt_trans h4 h3)] at h2; cases h2
      · subst h4; rw [e] at h2; cases h2
/-- The steps, sorted. -/
theorem sortS_ok (w : World) (B T c : Nat) (A : Option Addr) (L : List PU) (hL : OkL L) (hr : OwnE est 3 w B T A c (rawS L)) :
    Calls Try.prog 56 #[.slice A (rawS L).length c, .func (.func 57) #[] #[]] w fun e w' => e = .returned (.tuple #[]) ∧
      OwnE est 3 w' B T A c (stepsV L) ∧ RowOnly A w w' := by
  have eg : ∀ args w, (callFunc 57 args).run Try.prog w = .ok (.enter 57 args) w := enters_of Try.func57 (by kernel_rfl) rfl
  have hlen := hL.len
  refine (sort_rows EST Try.sortS Try.isAgg95 Try.sizeOf95 scmp swoS 57 eg (fun x y W => scmp_ok x y W) w B T c A (rawS L) hr (by rw [rawS_len]; omega)).mono ?_
  rintro e w' ⟨he, L', h1, h2, h3, h4⟩
  have hs : L'.Pairwise fun x y => ¬ slt y x := h2.imp fun {a b} h hc => by
    rw [ltS, sltb_iff.2 hc] at h; cases h
  have := stepsV_only hL (isS_of hL h1 hs)
  subst this
  exact ⟨he, h3, h4⟩
end Py
end Go.Proofs.Ytnkkhbmbbkmfhaa
