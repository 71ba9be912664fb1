/- Rows of integers, of numbers. -/
import Derived.Test.YtnkkhbmbbkmfhaaJM2
namespace Go.Proofs.Ytnkkhbmbbkmfhaa
open Go.RowKit
namespace Py

abbrev enN (n : Nat) : List Value := [.int .i64 (n : Int)]
abbrev enI (n : Int) : List Value := [.int .i64 n]
theorem EN : Enc enN 1 := ⟨by omega, fun _ => rfl, fun x u h => by
  simp only [List.mem_cons, List.not_mem_nil, or_false] at h
  rw [h]; rfl⟩
theorem EI : Enc enI 1 := ⟨by omega, fun _ => rfl, fun x u h => by
  simp only [List.mem_cons, List.not_mem_nil, or_false] at h
  rw [h]; rfl⟩
theorem iat_I {w : World} {A : Option Addr} {c : Nat} {M : List Int} : IAt w A c M ↔ EAt enI 1 w A c M := by
  constructor
  · rintro ⟨h1, h2, h3⟩
    refine ⟨h1, h2, fun j x hx => ?_⟩
    obtain ⟨g, o, hA, hg, d0⟩ := h3 j x hx
    refine ⟨g, o, hA, hg, fun i v hi hv => ?_⟩
    have hi0 : i = 0 := by omega
    subst hi0
    simp at hv
    rw [← hv, Nat.mul_one]; exact d0
  · rintro ⟨h1, h2, h3⟩
    refine ⟨h1, h2, fun j x hx => ?_⟩
    obtain ⟨g, o, hA, hg, d⟩ := h3 j x hx
    have := d 0 _ (by omega) rfl
    rw [Nat.mul_one] at this
    exact ⟨g, o, hA, hg, this⟩
theorem iat_N {w : World} {A : Option Addr} {c : Nat} {K : List Nat} : IAt w A c (zs K) ↔ EAt enN 1 w A c K := by
  constructor
  · rintro ⟨h1, h2, h3⟩
    refine ⟨by rwa [List.length_map] at h1, h2, fun j x hx => ?_⟩
    obtain ⟨g, o, hA, hg, d0⟩ := h3 j x (zs_get hx)
    refine ⟨g, o, hA, hg, fun i v hi hv => ?_⟩
    have hi0 : i = 0 := by omega
    subst hi0
    simp at hv
    rw [← hv, Nat.mul_one]; exact d0
  · rintro ⟨h1, h2, h3⟩
    refine ⟨by rwa [List.length_map], h2, fun j x hx => ?_⟩
    rw [List.getElem?_map] at hx
    cases hk : K[j]? with
    | none => rw [hk] at hx; cases hx
    | some n =>
      rw [hk] at hx
      injection hx with hx
      obtain ⟨g, o, hA, hg, d⟩ := h3 j n hk
      have := d 0 _ (by omega) rfl
      rw [Nat.mul_one] at this
      exact ⟨g, o, hA, hg, by rw [← hx]; exact this⟩
theorem int_info : (Try.prog.info? 3).map (fun i => (i.zero.isSome, i.zero.map (fun z => z.cells.size), i.size, i.bytes)) = some (true, some 1, 1, 8) := by kernel_rfl
theorem i64_info : (Try.prog.info? 2).map (fun i => (i.zero.isSome, i.zero.map (fun z => z.cells.size), i.size, i.bytes)) = some (true, some 1, 1, 8) := by kernel_rfl
/-- A new row with one number in it. -/
theorem oneN (w : World) (T : TypeId) (n : Nat) : EAt enN 1 (w.alloc (.cells #[.int .i64 (n : Int)] T)) (some ⟨w.heap.size, 0, none⟩) 1 [n] := (OwnE.at EN (owne_one EN w T n _ rfl)).1
theorem oneI (w : World) (T : TypeId) (n : Int) : EAt enI 1 (w.alloc (.cells #[.int .i64 n] T)) (some ⟨w.heap.size, 0, none⟩) 1 [n] := (OwnE.at EI (owne_one EI w T n _ rfl)).1
theorem oneU (w : World) (T : TypeId) (u : PU) : EAt eu 3 (w.alloc (.cells #[.int .i64 u.p, .int .i64 u.f, .int .i64 u.t] T)) (some ⟨w.heap.size, 0, none⟩) 1 [u] := (OwnE.at EU (owne_one EU w T u _ rfl)).1
end Py
end Go.Proofs.Ytnkkhbmbbkmfhaa
