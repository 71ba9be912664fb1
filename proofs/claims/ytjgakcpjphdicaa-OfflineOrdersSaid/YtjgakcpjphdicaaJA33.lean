/- Quick: the sort, of any number of blocks. -/
import Derived.Test.YtjgakcpjphdicaaK30
import Derived.Test.YtjgakcpjphdicaaJQ7
namespace Go.Proofs.Ytjgakcpjphdicaa
open Go.Shelf Go.RowKit Go.Lib Go.Sort Go.Proofs
namespace Of

set_option maxHeartbeats 2000000 in
theorem stab_all (w : World) (bp gr lc : Nat) (lA : Option Addr) (L : List OB) (hp : w.cell? ⟨bp, 0, none⟩ = some (.slice lA L.length lc)) (hl : OBAt w lA lc L) (hr : RowI 3 w gr (zs (List.range L.length))) (hn2 : L.length ≤ 100000)
    (h1 : bp ≠ gr) (h2 : 0 < L.length → ∀ g, lA.map (·.block) = some g → g ≠ gr) :
    Calls Try.prog 69 #[.slice (some ⟨gr, 0, none⟩) L.length L.length, .int .i64 (L.length : Int), .func (.func 50) #[] #[.pointer (some ⟨bp, 0, none⟩)]] w fun e w' => e = .returned (.tuple #[]) ∧ QSorted w gr L w' := by
  rcases Nat.eq_zero_or_pos L.length with h0 | hpos
  · have := stable_none (some ⟨gr, 0, none⟩) L.length (.func (.func 50) #[] #[.pointer (some ⟨bp, 0, none⟩)]) w
    rw [h0] at this ⊢
    refine this.mono ?_
    rintro e w' ⟨rfl, rfl⟩
    refine ⟨rfl, ?_, Grow1.refl _ _⟩
    rw [h0] at hr ⊢
    exact hr
  · obtain ⟨m, hm⟩ : ∃ m, L.length = m + 1 := ⟨L.length - 1, by omega⟩
    obtain ⟨g, o, rfl, hg⟩ := hl.head (by omega)
    rw [hm] at hr
    obtain ⟨cs, hcs, hcl⟩ := id hr
    have hcsz : cs.size = m + 1 := by rw [← Array.length_toList, hcl, ci_len]; simp
    have hin : ∀ k, k ∈ List.range (m + 1) → k < m + 1 := fun k hk => List.mem_range.1 hk
    have hdz : (fins m (List.range (m + 1))).size = m + 1 := by simp [fins]
    have hH : Holds (fun x : Fin (m + 1) => Value.int .i64 (x.val : Int)) w gr 0 (fins m (List.range (m + 1))) := by
      intro j hj
      rw [hdz] at hj
      refine ⟨?_, by simp [World.frozen?, hcs]⟩
      show _ = some (Value.int .i64 (((fins m (List.range (m + 1)))[j]!).val : Int))
      rw [fins_get hin (by simpa using hj), Nat.zero_add, hr.cell (by simpa using hj)]
      simp [hj]
    have eg : ∀ args w, (callFunc 50 args).run Try.prog w = .ok (.enter 50 args) w := enters_of Try.func50 (by kernel_rfl) rfl
    have hcm : CmpLays1 Try.prog 50 #[.pointer (some ⟨bp, 0, none⟩)] (fun x : Fin (m + 1) => Value.int .i64 (x.val : Int)) (fun x y => qcmp L x.val y.val) gr 0 (fins m (List.range (m + 1))).size w := by
      intro q os dk hdk x y
      have k1 := sw_other (fun x : Fin (m + 1) => Value.int .i64 (x.val : Int)) w gr 0 q dk os (k := bp) h1 (World.block_lt_of_cell? w (a := ⟨bp, 0, none⟩) hp)
      have k2 := sw_other (fun x : Fin (m + 1) => Value.int .i64 (x.val : Int)) w gr 0 q dk os (k := g) (h2 (by omega) g rfl) hg
      have hsl : w.heap.size ≤ (sortWorld (fun x : Fin (m + 1) => Value.int .i64 (x.val : Int)) w gr 0 q dk os).heap.size := SW.le ⟨q, os, rfl⟩
      have hl' : OBAt (sortWorld (fun x : Fin (m + 1) => Value.int .i64 (x.val : Int)) w gr 0 q dk os) (some ⟨g, o, none⟩) lc L := hl.keep hsl fun g' e _ => by
        have : g = g' := by injection e
        rw [← this]; exact k2
      exact qcmp_ok _ bp lc _ L ((World.cell?_of_block (a := ⟨bp, 0, none⟩) k1).trans hp) hl' x.val y.val (by have := x.isLt; omega) (by have := y.isLt; omega)
    have hs := stable_ok (fun x : Fin (m + 1) => Value.int .i64 (x.val : Int)) (fun x y : Fin (m + 1) => before L x.val y.val) ⟨fun x => (before_swo L).irrefl _, fun x y z => (before_swo L).trans _ _ _, fun x y z => (before_swo L).ntrans _ _ _⟩ (fun x y => qcmp L x.val y.val) (fun x => x.val) 50 #[.pointer (some ⟨bp, 0, none⟩)] gr (m + 1) (fins m (List.range (m + 1))) w eg hcm ⟨fun _ => rfl, hH, lt_of_heap hcs⟩ (by rw [hdz]; omega) (SW.start hH) (fun x hx => by
      rw [hdz] at hx
      rw [fins_get hin (by simpa using hx), List.getElem_range]) (fun x y h => qcmp_before L h)
    rw [hdz] at hs
    rw [hm]
    refine hs.mono ?_
    rintro e w' ⟨rfl, d', hp1, hs1, hsw⟩
    have hq := ins_quick L m d' hp1 hs1
    have hd' : d'.size = m + 1 := hp1.1.trans hdz
    obtain ⟨q, os, rfl⟩ := hsw
    refine ⟨rfl, ⟨_, sw_row hcs, ?_⟩, ?_⟩
    · rw [hm, ← hq]
      apply List.ext_getElem
      · simp [putCells, ci, hcsz, hd']
      · intro i h3 h4
        have hi : i < m + 1 := by simpa [ci, hd'] using h4
        simp [putCells, ci, hd', hi]
    · obtain hsw : SW (fun x : Fin (m + 1) => Value.int .i64 (x.val : Int)) w gr 0 d' (sortWorld (fun x : Fin (m + 1) => Value.int .i64 (x.val : Int)) w gr 0 q d' os) := ⟨q, os, rfl⟩
      exact ⟨rfl, rfl, rfl, hsw.le, fun k hk hne => sw_other _ _ _ _ _ _ _ hne hk⟩
theorem stabS_all {L : List OB} (h : L.length ≤ 100000) : StabS L := fun w bp gr lc lA h1 h2 h3 h4 h5 => stab_all w bp gr lc lA L h1 h2 h3 h h4 h5
end Of
end Go.Proofs.Ytjgakcpjphdicaa
