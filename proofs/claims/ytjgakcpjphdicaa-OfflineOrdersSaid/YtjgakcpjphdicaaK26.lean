/- SortStableFunc of less than 20 elements. Quick: the sort. -/
import Derived.Test.YtjgakcpjphdicaaK25
import Derived.Shelf.SlSortCmp.Insertion1
namespace Go.Proofs.Ytjgakcpjphdicaa
open Go.Shelf Go.RowKit Go.Lib Go.Sort Go.Proofs
namespace Of

set_option maxHeartbeats 4000000 in
set_option maxRecDepth 100000 in
theorem stable_small {α : Type} [Inhabited α] (enc : α → Value) (cf : α → α → Int) (g : Nat) (cb : Array Value) (blk cap : Nat) (d0 d : Array α) (w0 w : World)
    (eg : ∀ args w, (callFunc g args).run Try.prog w = .ok (.enter g args) w) (hcmp : CmpLays1 Try.prog g cb enc cf blk 0 d0.size w0) (R : Row1 enc w0 blk 0 d0) (hs : d0.size = d.size) (S : SW enc w0 blk 0 d w) (hsz : d.size < 20) :
    Calls Try.prog 69 #[.slice (some ⟨blk, 0, none⟩) d.size cap, .int .i64 (d.size : Int), .func (.func g) #[] cb] w fun e w' => e = .returned (.tuple #[]) ∧ SW enc w0 blk 0 (insertionSort (ltOf cf) d 0 d.size) w' := by
  have hins := Any.insertionSortCmpFunc_s (P := Try.prog) (ρ := Try.sortI_ren) { Try.sortI with } enc cf g cb blk 0 cap 0 d.size d0 d w0 w eg hcmp R hs S (Nat.zero_le _) (Nat.le_refl _) (by omega)
  have HI := Lib.hid hins
  clear hins S hcmp R
  have h20 : (d.size : Int) < 20 := by omega
  have h21 : ¬ (20 : Int) < (d.size : Int) := by omega
  have h22 : ¬ (20 : Int) ≤ (d.size : Int) := by omega
  have e1 : decide ((20 : Int) ≤ (d.size : Int)) = false := decide_eq_false h22
  have e2 : decide ((20 : Int) < (d.size : Int)) = false := decide_eq_false h21
  obtain ⟨n, hn⟩ : ∃ n, n = d.size := ⟨_, rfl⟩
  rw [← hn] at HI h20 h21 h22 e1 e2 ⊢
  clear hn
  go_enter Try.func69, Try.ntmps69
  go_wp2_with (fail)
  go_loopw [7, 8] (fun a b wr => a = .int .i64 0 ∧ b = .int .i64 20 ∧ wr = w) (fun _ _ _ => 0)
  case atStart => exact ⟨rfl, rfl, rfl⟩
  case round =>
    obtain ⟨rfl, rfl, rfl⟩ := hrel
    go_wp2_with (go_at_call 78; refine HI.out.mono ?_; rintro e w1 ⟨rfl, hS⟩; have HS := Lib.hid hS; clear hS)
    go_loopw [6] (fun b wr => b = .int .i64 20 ∧ wr = w1) (fun _ _ => 0)
    case atStart => exact ⟨rfl, rfl⟩
    case round =>
      obtain ⟨rfl, rfl⟩ := hrel
      go_wp2
      go_end0
      exact ⟨rfl, HS.out⟩
end Of
end Go.Proofs.Ytjgakcpjphdicaa
namespace Go.Proofs.Ytjgakcpjphdicaa
open Go.Shelf Go.RowKit Go.Lib Go.Sort Go.Proofs
namespace Of

set_option maxHeartbeats 2000000 in
theorem ins_none (A : Option Addr) (c : Nat) (f : Value) (w : World) : Calls Try.prog 78 #[.slice A 0 c, .int .i64 0, .int .i64 0, f] w fun e w' => e = .returned (.tuple #[]) ∧ w' = w := by
  go_enter Try.func78, Try.ntmps78
  go_wp2_with (fail)
  go_loopw [8] (fun a wr => a = .int .i64 1 ∧ wr = w) (fun _ _ => 0)
  case atStart => exact ⟨rfl, rfl⟩
  case round =>
    obtain ⟨rfl, rfl⟩ := hrel
    go_wp2
    go_end0
    exact ⟨rfl, rfl⟩
set_option maxHeartbeats 2000000 in
theorem stable_none (A : Option Addr) (c : Nat) (f : Value) (w : World) : Calls Try.prog 69 #[.slice A 0 c, .int .i64 0, f] w fun e w' => e = .returned (.tuple #[]) ∧ w' = w := by
  go_enter Try.func69, Try.ntmps69
  go_wp2_with (fail)
  go_loopw [7, 8] (fun a b wr => a = .int .i64 0 ∧ b = .int .i64 20 ∧ wr = w) (fun _ _ _ => 0)
  case atStart => exact ⟨rfl, rfl, rfl⟩
  case round =>
    obtain ⟨rfl, rfl, hw⟩ := hrel
    have HW := Lib.hid hw
    clear hw
    go_wp2_with (go_at_call 78; refine (ins_none _ _ _ _).mono ?_; rintro e w1 ⟨rfl, hw1⟩; have HW1 := Lib.hid hw1; clear hw1)
    go_loopw [6] (fun b wr1 => b = .int .i64 20 ∧ Hid (wr1 = w)) (fun _ _ => 0)
    case atStart => exact ⟨rfl, HW1.out.trans HW.out⟩
    case round =>
      obtain ⟨rfl, hw2⟩ := hrel
      go_wp2
      go_end0
      exact ⟨rfl, hw2.out⟩
/-- What the quick sort leaves. -/
def QSorted (w : World) (gr : Nat) (L : List OB) (w' : World) : Prop := RowI 3 w' gr (zs (qord L L.length)) ∧ Grow1 gr w w'
/-- Insertion of the numbers in their order gives the quick order. -/
theorem ins_quick (L : List OB) (m : Nat) (d' : Array (Fin (m + 1))) (hp : PermIn 0 (m + 1) (fins m (List.range (m + 1))) d') (hs : SortedIn (fun x y : Fin (m + 1) => before L x.val y.val) 0 (m + 1) d') : d'.toList.map (·.val) = qord L (m + 1) := by
  have hin : ∀ k, k ∈ List.range (m + 1) → k < m + 1 := fun k hk => List.mem_range.1 hk
  have hdz : (fins m (List.range (m + 1))).size = m + 1 := by simp [fins]
  have hd' : d'.size = m + 1 := hp.1.trans hdz
  have hperm : (d'.toList.map (·.val)).Perm (List.range (m + 1)) := by
    have hp2 := hp.2.2
    rw [Array.extract_size_of_eq hd', Array.extract_size_of_eq hdz] at hp2
    have := hp2.map (fun x : Fin (m + 1) => x.val)
    refine this.trans (List.Perm.of_eq ?_)
    unfold fins
    rw [List.toList_toArray, List.map_map]
    refine (List.map_congr_left fun x hx => ?_).trans (List.map_id _)
    have := hin x hx
    simp [Nat.mod_eq_of_lt this]
  refine qord_uniq L (m + 1) hperm ?_
  have hnd := hperm.nodup_iff.2 List.nodup_range
  rw [List.pairwise_iff_getElem]
  intro i j hi hj hij
  have h1 : (d'.toList.map (·.val))[i] ≠ (d'.toList.map (·.val))[j] := fun e => by
    exact List.pairwise_iff_getElem.1 hnd i j hi hj hij e
  have hi2 : i < m + 1 := by simpa [hd'] using hi
  have hj2 : j < m + 1 := by simpa [hd'] using hj
  have h2 := hs i j (Nat.zero_le _) hij hj2
  rw [getElem!_pos d' i (by omega), getElem!_pos d' j (by omega)] at h2
  refine before_total L (fun e => h1 e.symm) ?_
  simpa using h2

set_option maxHeartbeats 2000000 in
theorem stab_ok (w : World) (bp gr lc : Nat) (lA : Option Addr) (L : List OB) (hp : w.cell? ⟨bp, 0, none⟩ = some (.slice lA L.length lc)) (hl : OBAt w lA lc L) (hr : RowI 3 w gr (zs (List.range L.length))) (hn2 : L.length < 20)
    (h1 : bp ≠ gr) (h2 : 0 < L.length → ∀ g, lA.map (·.block) = some g → g ≠ gr) :
    Calls Try.prog 69 #[.slice (some ⟨gr, 0, none⟩) L.length L.length, .int .i64 (L.length : Int), .func (.func 50) #[] #[.pointer (some ⟨bp, 0, none⟩)]] w fun e w' => e = .returned (.tuple #[]) ∧ QSorted w gr L w' := by
  rcases Nat.eq_zero_or_pos L.length with h0 | hpos
  · have := stable_none (some ⟨gr, 0, none⟩) L.length (.func (.func 50) #[] #[.pointer (some ⟨bp, 0, none⟩)]) w
    rw [h0] at this ⊢
    refine this.mono ?_
    rintro e w' ⟨rfl, rfl⟩
    refine ⟨rfl, ?_, Grow1.refl _ _⟩
    rw [h0] at hr ⊢
    exact hr
  · obtain ⟨m, hm⟩ : ∃ m, L.length = m + 1 := ⟨L.length - 1, by omega⟩
    obtain ⟨g, o, rfl, hg⟩ := hl.head (by omega)
    rw [hm] at hr
    obtain ⟨cs, hcs, hcl⟩ := id hr
    have hcsz : cs.size = m + 1 := by rw [← Array.length_toList, hcl, ci_len]; simp
    have hin : ∀ k, k ∈ List.range (m + 1) → k < m + 1 := fun k hk => List.mem_range.1 hk
    have hdz : (fins m (List.range (m + 1))).size = m + 1 := by simp [fins]
    have hH : Holds (fun x : Fin (m + 1) => Value.int .i64 (x.val : Int)) w gr 0 (fins m (List.range (m + 1))) := by
      intro j hj
      rw [hdz] at hj
      refine ⟨?_, by simp [World.frozen?, hcs]⟩
      show _ = some (Value.int .i64 (((fins m (List.range (m + 1)))[j]!).val : Int))
      rw [fins_get hin (by simpa using hj), Nat.zero_add, hr.cell (by simpa using hj)]
      simp [hj]
    have eg : ∀ args w, (callFunc 50 args).run Try.prog w = .ok (.enter 50 args) w := enters_of Try.func50 (by kernel_rfl) rfl
    have hcm : CmpLays1 Try.prog 50 #[.pointer (some ⟨bp, 0, none⟩)] (fun x : Fin (m + 1) => Value.int .i64 (x.val : Int)) (fun x y => qcmp L x.val y.val) gr 0 (fins m (List.range (m + 1))).size w := by
      intro q os dk hdk x y
      have k1 := sw_other (fun x : Fin (m + 1) => Value.int .i64 (x.val : Int)) w gr 0 q dk os (k := bp) h1 (World.block_lt_of_cell? w (a := ⟨bp, 0, none⟩) hp)
      have k2 := sw_other (fun x : Fin (m + 1) => Value.int .i64 (x.val : Int)) w gr 0 q dk os (k := g) (h2 (by omega) g rfl) hg
      have hsl : w.heap.size ≤ (sortWorld (fun x : Fin (m + 1) => Value.int .i64 (x.val : Int)) w gr 0 q dk os).heap.size := SW.le ⟨q, os, rfl⟩
      have hl' : OBAt (sortWorld (fun x : Fin (m + 1) => Value.int .i64 (x.val : Int)) w gr 0 q dk os) (some ⟨g, o, none⟩) lc L := hl.keep hsl fun g' e _ => by
        have : g = g' := by injection e
        rw [← this]; exact k2
      exact qcmp_ok _ bp lc _ L ((World.cell?_of_block (a := ⟨bp, 0, none⟩) k1).trans hp) hl' x.val y.val (by have := x.isLt; omega) (by have := y.isLt; omega)
    have hs := stable_small (fun x : Fin (m + 1) => Value.int .i64 (x.val : Int)) (fun x y => qcmp L x.val y.val) 50 #[.pointer (some ⟨bp, 0, none⟩)] gr (m + 1) (fins m (List.range (m + 1))) (fins m (List.range (m + 1))) w w eg hcm ⟨fun _ => rfl, hH, lt_of_heap hcs⟩ rfl (SW.start hH) (by rw [hdz]; omega)
    rw [hdz] at hs
    rw [hm]
    refine hs.mono ?_
    rintro e w' ⟨rfl, hsw⟩
    have hcg := insertion_congr (ltOf fun x y : Fin (m + 1) => qcmp L x.val y.val) (fun x y : Fin (m + 1) => before L x.val y.val) 0 (m + 1) (fins m (List.range (m + 1))) (by omega) (fun i j _ hij hj => by
      unfold ltOf
      have e1 := fins_get hin (t := i) (by simp; omega)
      have e2 := fins_get hin (t := j) (by simp; omega)
      rw [List.getElem_range] at e1 e2
      rw [Bool.eq_iff_iff, decide_eq_true_eq]
      exact qcmp_before L (by omega))
    rw [hcg] at hsw
    have hso := insertionSort_holds (lt := fun x y : Fin (m + 1) => before L x.val y.val) ⟨fun x => (before_swo L).irrefl _, fun x y z => (before_swo L).trans _ _ _, fun x y z => (before_swo L).ntrans _ _ _⟩ (fins m (List.range (m + 1))) 0 (m + 1) (Nat.zero_le _) (by omega)
    generalize insertionSort (fun x y : Fin (m + 1) => before L x.val y.val) (fins m (List.range (m + 1))) 0 (m + 1) = d' at *
    have hq := ins_quick L m d' hso.1 hso.2
    have hd' : d'.size = m + 1 := hso.1.1.trans hdz
    obtain ⟨q, os, rfl⟩ := hsw
    refine ⟨rfl, ⟨_, sw_row hcs, ?_⟩, ?_⟩
    · rw [hm, ← hq]
      apply List.ext_getElem
      · simp [putCells, ci, hcsz, hd']
      · intro i h3 h4
        have hi : i < m + 1 := by simpa [ci, hd'] using h4
        simp [putCells, ci, hd', hi]
    · obtain hsw : SW (fun x : Fin (m + 1) => Value.int .i64 (x.val : Int)) w gr 0 d' (sortWorld (fun x : Fin (m + 1) => Value.int .i64 (x.val : Int)) w gr 0 q d' os) := ⟨q, os, rfl⟩
      exact ⟨rfl, rfl, rfl, hsw.le, fun k hk hne => sw_other _ _ _ _ _ _ _ hne hk⟩
end Of
end Go.Proofs.Ytjgakcpjphdicaa
