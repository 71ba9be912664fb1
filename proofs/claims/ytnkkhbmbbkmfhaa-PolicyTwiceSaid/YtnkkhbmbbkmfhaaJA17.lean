/- The program: slices.Delete at the queue. -/
import Derived.Test.YtnkkhbmbbkmfhaaJA16
import Derived.Lib.SliceRun
namespace Go.Proofs.Ytnkkhbmbbkmfhaa
open Go.Shelf Go.RowKit Go.Sort Go.Lib
namespace Py

theorem zeroW (w : World) : (zeroValue 103).run Try.prog w = .ok (.agg #[.int .i64 0, .int .i64 0]) w := by kernel_rfl
/-- 'clear' of one element of two cells. -/
theorem run_clear2 (w : World) (ty : TypeId) (b o c : Nat) (hc : ∀ j, j < 2 → (w.cell? ⟨b, o + j, none⟩).isSome = true) (hf : ∀ j, j < 2 → w.frozen? ⟨b, o + j, none⟩ = false) :
    (Builtin.clear_ #[100] ty #[.slice (some ⟨b, o, none⟩) 1 c]).run Try.prog w = .ok (.tuple #[]) (w.setCells b o [.int .i64 0, .int .i64 0]) := by
  have hst := run_storeCells_cells (P := Try.prog) b o [.int .i64 0, .int .i64 0] 0 w (by simpa using hc) (by simpa using hf) (by simp [Value.oneCell'])
  simp only [Nat.add_zero] at hst
  have hz : (Builtin.zeroCells (Value.agg #[.int .i64 0, .int .i64 0]).cells 1).toList = [.int .i64 0, .int .i64 0] := by simp [Builtin.zeroCells, Value.cells]; rfl
  simp [Builtin.clear_, run_underlying Try.underlying100, hz, hst]
/-- A page is taken out. -/
theorem QAt.erase {w : World} {B c g o : Nat} {H : List Wt} (h : QAt w B (some ⟨g, o, none⟩) c H) {k : Nat} (hk : k < H.length) :
    QAt ((w.setCells g (o + k * 2) (ce ewt (H.drop (k + 1)))).setCells g (o + (H.length - 1) * 2) [.int .i64 0, .int .i64 0]) B (some ⟨g, o, none⟩) c (H.eraseIdx k) := by
  rcases h with ⟨h, _⟩ | ⟨g', o', e, hB, hg, hs, hl, hc, hat⟩
  · cases h
  · injection e with e; injection e with e1 e2 _
    subst e1; subst e2
    have hcl : ∀ L : List Wt, (ce ewt L).length = L.length * 2 := ce_len EWT
    have hel : (H.eraseIdx k).length = H.length - 1 := by rw [List.length_eraseIdx, if_pos hk]
    have hdl : (H.drop (k + 1)).length = H.length - (k + 1) := List.length_drop
    refine .inr ⟨g, o, rfl, hB, by rw [sc_size, sc_size]; exact hg, fun j hj => ⟨World.isSome_setCells g _ _ _ _ (World.isSome_setCells g _ _ _ _ (hs j hj).1), by rw [World.frozen?_setCells, World.frozen?_setCells]; exact (hs j hj).2⟩, by omega, hc, fun t v hv => ?_⟩
    have htl := ce_lt hv
    rw [hel] at htl
    rw [World.cell?_setCells_out _ _ _ _ _ (fun _ _ => by left; dsimp only; omega)]
    rw [List.eraseIdx_eq_take_drop_succ, ce_add] at hv
    have htk : (H.take k).length = k := by rw [List.length_take]; omega
    by_cases ht : t < k * 2
    · rw [List.getElem?_append_left (by rw [hcl, htk]; exact ht)] at hv
      rw [World.cell?_setCells_out _ _ _ _ _ (fun _ _ => by left; dsimp only; omega)]
      refine hat t v ?_
      rw [← List.take_append_drop k H, ce_add, List.getElem?_append_left (by rw [hcl, htk]; exact ht)]
      exact hv
    · rw [List.getElem?_append_right (by rw [hcl, htk]; omega), hcl, htk] at hv
      have h9 := World.cell?_setCells_in g (ce ewt (H.drop (k + 1))) (o + k * 2) w (fun j hj => by rw [Nat.add_assoc]; rw [hcl, hdl] at hj; exact (hs _ (by omega)).1) (t - k * 2) (List.getElem?_eq_some_iff.1 hv).1
      rw [show o + t = o + k * 2 + (t - k * 2) by omega, h9]
      exact (List.getElem?_eq_getElem _).symm.trans hv
end Py
end Go.Proofs.Ytnkkhbmbbkmfhaa
