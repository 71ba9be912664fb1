/- Plain: no layout's top is below the peak. The specification: Order, before, Lay. -/
import Derived.Test.YtjgakcpjphdicaaK12
import Derived.Test.YtjgakcpjphdicaaK3
import Derived.Test.YtjgakcpjphdicaaK9
import Derived.Test.YtjgakcpjphdicaaK10
namespace Go.Proofs.Ytjgakcpjphdicaa
open Go.RowKit
namespace Of

theorem sum_perm {l m : List Int} (h : l.Perm m) : l.sum = m.sum := by
  induction h with
  | nil => rfl
  | cons x _ ih => rw [List.sum_cons, List.sum_cons, ih]
  | swap x y l => rw [List.sum_cons, List.sum_cons, List.sum_cons, List.sum_cons]; omega
  | trans _ _ h1 h2 => exact h1.trans h2
theorem has_max (f : Nat → Int) : ∀ (S : List Nat), S ≠ [] → ∃ k, k ∈ S ∧ ∀ j, j ∈ S → f j ≤ f k
  | [], h => absurd rfl h
  | [a], _ => ⟨a, by simp, fun j hj => by simp at hj; rw [hj]; exact Int.le_refl _⟩
  | a :: b :: S, _ => by
    obtain ⟨k, hk, h⟩ := has_max f (b :: S) (by simp)
    by_cases e : f k ≤ f a
    · refine ⟨a, by simp, fun j hj => ?_⟩
      rcases List.mem_cons.1 hj with rfl | hj
      · exact Int.le_refl _
      · exact Int.le_trans (h j hj) e
    · refine ⟨k, List.mem_cons_of_mem _ hk, fun j hj => ?_⟩
      rcases List.mem_cons.1 hj with rfl | hj
      · omega
      · exact h j hj
/-- Intervals that have nothing in common need the sum of their lengths. -/
theorem sum_fit (f s : Nat → Int) : ∀ (n : Nat) (S : List Nat) (T : Int), S.length = n → S.Nodup → 0 ≤ T → (∀ k, k ∈ S → 0 ≤ f k ∧ 1 ≤ s k ∧ f k + s k ≤ T) → (∀ j k, j ∈ S → k ∈ S → j ≠ k → f j + s j ≤ f k ∨ f k + s k ≤ f j) → (S.map s).sum ≤ T
  | 0, S, T, hl, _, hT, _, _ => by
    rw [List.length_eq_zero_iff.1 hl]; simpa using hT
  | n + 1, S, T, hl, hn, hT, h1, h2 => by
    have hne : S ≠ [] := fun e => by rw [e] at hl; simp at hl
    obtain ⟨k, hk, hm⟩ := has_max f S hne
    have hp := List.perm_cons_erase hk
    have hs : (S.map s).sum = s k + ((S.erase k).map s).sum := by
      have h3 := sum_perm (hp.map s)
      rw [h3]; simp
    have hmem : ∀ j, j ∈ S.erase k → j ∈ S ∧ j ≠ k := fun j hj => ⟨List.mem_of_mem_erase hj, fun e => by rw [e] at hj; exact hn.not_mem_erase hj⟩
    have ih := sum_fit f s n (S.erase k) (f k) (by rw [List.length_erase_of_mem hk]; omega) (hn.erase _) (h1 k hk).1 (fun j hj => by
      obtain ⟨hj1, hj2⟩ := hmem j hj
      obtain ⟨a1, a2, a3⟩ := h1 j hj1
      refine ⟨a1, a2, ?_⟩
      rcases h2 j k hj1 hk hj2 with h | h
      · exact h
      · have := hm j hj1; have := (h1 k hk).2.1; omega) (fun i j hi hj hij => h2 i j (hmem i hi).1 (hmem j hj).1 hij)
    have := (h1 k hk).2.2
    omega
theorem sum_filter (p : Nat → Bool) (s : Nat → Int) : ∀ (l : List Nat), (l.map fun i => if p i = true then s i else 0).sum = ((l.filter p).map s).sum
  | [] => rfl
  | a :: l => by
    rw [List.map_cons, List.sum_cons, sum_filter p s l, List.filter_cons]
    by_cases h : p a = true
    · rw [if_pos h, if_pos h]; simp
    · rw [if_neg h, if_neg h]; simp
theorem loadV_range (L : List OB) (t : Int) : loadV L t = ((List.range L.length).map fun i => ld (blk L i) t).sum := by
  unfold loadV
  congr 1
  apply List.ext_getElem
  · simp
  · intro i h1 h2
    simp at h1 h2
    simp [blk, List.getElem?_eq_getElem h1]
/-- Blocks that meet are laid apart. -/
def Apart (L : List OB) (A : List Int) (o : List Nat) : Prop := ∀ j k, j ∈ o → k ∈ o → j ≠ k → meet (blk L j) (blk L k) = true → addr A j + (blk L j).s ≤ addr A k ∨ addr A k + (blk L k).s ≤ addr A j
theorem lays_apart {L : List OB} (hL : OkL L) : ∀ (m : Nat) (o : List Nat), o.length = m → Ord L.length o → Apart L (lays L o).A o := by
  intro m
  induction m with
  | zero => intro o ho _; rw [List.length_eq_zero_iff.1 ho]; intro j k hj; cases hj
  | succ m ih =>
    intro o ho h
    rcases snoc_cases o with rfl | ⟨p, i, rfl⟩
    · simp at ho
    · obtain ⟨h1, h2, h3⟩ := h.snoc
      have hp := ih p (by simpa using ho) h1
      rw [lays_snoc]
      have hfit := fit_is (L := L) (A := (lays L p).A) (hL.blk i) (lays L p).S
      have hfr := free_iff.1 hfit.free
      rw [lays_S] at hfr
      have ha : ∀ k, addr ((lays L p).next L i).A k = if k = i then fit L (lays L p).A (lays L p).S (blk L i) else addr (lays L p).A k := fun k => addr_set (by rw [lays_len]; exact h2)
      rw [lays_S] at ha
      intro j k hj hk hjk hm
      rw [ha j, ha k]
      rcases List.mem_append.1 hj with hj1 | hj1 <;> rcases List.mem_append.1 hk with hk1 | hk1
      · rw [if_neg (fun e => h3 (by rw [← e]; exact hj1)), if_neg (fun e => h3 (by rw [← e]; exact hk1))]
        exact hp j k hj1 hk1 hjk hm
      · have hk2 : k = i := by simpa using hk1
        rw [if_neg (fun e => h3 (by rw [← e]; exact hj1)), if_pos hk2, hk2]
        exact hfr j hj1 (by rw [meet_comm, ← hk2]; exact hm)
      · have hj2 : j = i := by simpa using hj1
        rw [if_pos hj2, if_neg (fun e => h3 (by rw [← e]; exact hk1)), hj2]
        exact (hfr k hk1 (by rw [← hj2]; exact hm)).symm
      · have hj2 : j = i := by simpa using hj1
        have hk2 : k = i := by simpa using hk1
        exact absurd (hj2.trans hk2.symm) hjk
theorem load_top {L : List OB} (hL : OkL L) {o : List Nat} (hO : Ord L.length o) (hl : o.length = L.length) (t : Int) : loadV L t ≤ topOf L o := by
  have hg := good hL hO
  have hap := lays_apart hL _ o rfl hO
  have e : loadV L t = (((List.range L.length).filter fun i => decide ((blk L i).f ≤ t ∧ t < (blk L i).t)).map fun i => (blk L i).s).sum := by
    rw [loadV_range, ← sum_filter]
    congr 1
    refine List.map_congr_left fun i _ => ?_
    unfold ld
    simp
  rw [e]
  refine sum_fit (fun k => addr (lays L o).A k) (fun i => (blk L i).s) _ _ _ rfl (List.nodup_range.filter _) hg.t0 (fun k hk => ?_) (fun j k hj hk hjk => ?_)
  · rw [List.mem_filter, List.mem_range] at hk
    have hm : k ∈ (lays L o).S := by rw [lays_S]; exact full_mem hO hl hk.1
    exact ⟨hg.pos k hm, (hL.blk k).s1, hg.top k hm⟩
  · rw [List.mem_filter, List.mem_range] at hj hk
    obtain ⟨hj1, hj2⟩ := hj
    obtain ⟨hk1, hk2⟩ := hk
    rw [decide_eq_true_eq] at hj2 hk2
    refine hap j k (full_mem hO hl hj1) (full_mem hO hl hk1) hjk ?_
    unfold meet
    rw [Bool.and_eq_true, decide_eq_true_eq, decide_eq_true_eq]
    omega
theorem peak_top {L : List OB} (hv : checkV L = 0) {o : List Nat} (hO : Ord L.length o) (hl : o.length = L.length) : (peakRes L).1 ≤ topOf L o := by
  have hL := (checkV_ok L).1 hv
  unfold peakRes
  rw [if_neg (by rw [hv]; simp)]
  show (pk _ 1001).1 ≤ _
  rcases pk_at (f := fun t => loadV L t) 1001 with h | ⟨_, h, _⟩
  · rw [h]; exact (good hL hO).t0
  · rw [← h]; exact load_top hL hO hl _
end Of
end Go.Proofs.Ytjgakcpjphdicaa
namespace Go.Proofs.Ytjgakcpjphdicaa
open Go.RowKit
namespace Of

set_option maxRecDepth 100000 in
set_option maxHeartbeats 4000000 in
theorem orderR_ok (w : World) (A : Option Addr) (c : Nat) (M : List Int) (n : Nat) (hm : IAt w A c M) (hn : n ≤ 100000) :
    Calls Try.prog 22 #[.slice A M.length c, .int .i64 (n : Int)] w fun e w' => e = .returned (.bool (isOrd n M)) ∧ Below w.heap.size w w' := by
  have hmc := hm.1
  have hmcap := hm.2.1
  unfold maxLen at hmcap
  have hmk := make_bools w n hn
  have hb0 := below_box w (.cells (Array.replicate n (.bool false)) 4)
  have hx0 : (w.alloc (.cells (Array.replicate n (.bool false)) 4)).heap[w.heap.size]? = some (.cells (Array.replicate n (.bool false)) 4 (0, 0)) := by rw [heapAlloc, if_pos rfl]
  have hr0 : RowB 4 (w.alloc (.cells (Array.replicate n (.bool false)) 4)) w.heap.size (marks n []) := ⟨_, hx0, by rw [marks_nil]; simp⟩
  have HH := Lib.hid hm
  have H0 := Lib.hid (And.intro hb0 hr0)
  clear hm hb0 hx0 hr0
  go_enter Try.func22, Try.ntmps22
  go_upto_region 2 with (fail)
  generalize w.alloc (.cells (Array.replicate n (.bool false)) 4) = W0 at *
  clear hmk
  obtain ⟨gb, hgb⟩ : ∃ z, z = w.heap.size := ⟨_, rfl⟩
  rw [← hgb] at H0 ⊢
  have HZ := Lib.hid hgb
  clear hgb
  go_wp2_with (fail)
  go_loopw [6] (fun i wr => ∃ (k : Nat) (o : List Nat), k ≤ M.length ∧ i = .int .i64 k ∧ M.take k = zsP o ∧ Ord n o ∧ RowB 4 wr gb (marks n o) ∧ Below gb w wr) (fun i _ => M.length - (intOf i).toNat)
  case atStart => exact ⟨0, [], Nat.zero_le _, rfl, rfl, ⟨List.nodup_nil, fun i hi => by cases hi⟩, H0.out.2, H0.out.1⟩
  case round =>
    obtain ⟨k, o, hk, rfl, hto, hO, hr, hb⟩ := hrel
    by_cases hlt : k < M.length
    · obtain ⟨x, hx⟩ : ∃ x, M[k]? = some x := ⟨_, List.getElem?_eq_getElem hlt⟩
      obtain ⟨g, oo, rfl, hg, d0⟩ := (HH.out.below hb (Nat.le_of_eq HZ.out.symm)).2.2 k x hx
      have hgw : g < gb := by have := HH.out.block (by omega); have := HZ.out; omega
      have HX := Lib.hid (And.intro hx (And.intro hto (And.intro hO (And.intro hr hb))))
      by_cases h1 : x < 0
      · have hf : isOrd n M = false := isOrd_bad hx hto (.inl h1)
        have HF := Lib.hid hf
        clear hf hx hto hO hr hb
        go_wp2
        go_ret
        exact ⟨by rw [HF.out]; rfl, by rw [← HZ.out]; exact HX.out.2.2.2.2⟩
      · by_cases h2 : (n : Int) ≤ x
        · have hf : isOrd n M = false := isOrd_bad hx hto (.inr (.inl h2))
          have HF := Lib.hid hf
          clear hf hx hto hO hr hb
          go_wp2
          go_ret
          exact ⟨by rw [HF.out]; rfl, by rw [← HZ.out]; exact HX.out.2.2.2.2⟩
        · obtain ⟨i, rfl⟩ := Int.eq_ofNat_of_zero_le (show 0 ≤ x by omega)
          have hin : i < n := by omega
          have hc := hr.cell (j := i) (by rw [marks_len]; exact hin)
          rw [marks_at hin] at hc
          have hfz := hr.frozen i
          cases hm : decide (i ∈ o) with
          | true =>
            rw [hm] at hc
            have hf : isOrd n M = false := isOrd_bad hx hto (.inr (.inr ⟨i, rfl, by simpa using hm⟩))
            have HF := Lib.hid hf
            clear hf hx hto hO hr hb hm
            go_wp2
            go_ret
            exact ⟨by rw [HF.out]; rfl, by rw [← HZ.out]; exact HX.out.2.2.2.2⟩
          | false =>
            rw [hm] at hc
            have hmo : i ∉ o := by simpa using hm
            have hset := hr.set i true
            rw [marks_set hin] at hset
            have hnext : M.take (k + 1) = zsP (o ++ [i]) := by rw [take_next hx, hto]; unfold zsP; rw [List.map_append]; rfl
            have HN := Lib.hid (And.intro hset (And.intro hnext (hO.push hin hmo)))
            clear hset hnext hx hto hO hr hb hm hmo
            go_wp2
            go_roundw
            case rel => exact ⟨k + 1, o ++ [i], by omega, by go_num, HN.out.2.1, HN.out.2.2, HN.out.1, HX.out.2.2.2.2.setCell (Nat.le_refl _) _⟩
            case measure => simp [intOf]; omega
    · obtain rfl : k = M.length := by omega
      rw [List.take_length] at hto
      have hres : isOrd n M = decide (M.length = n) := by
        rw [Bool.eq_iff_iff, isOrd_iff, decide_eq_true_eq]
        constructor
        · rintro ⟨p, rfl, _, hl⟩; rw [List.length_map]; exact hl
        · intro hl; exact ⟨o, hto, hO, by rw [hto, List.length_map] at hl; exact hl⟩
      have HR := Lib.hid (And.intro hres hb)
      clear hres hb hr hO hto
      by_cases hl : M.length = n
      · have e : ((M.length : Int) == (n : Int)) = true := by simp; omega
        have HL := Lib.hid hl
        clear hl
        go_wp2
        go_ret
        exact ⟨by rw [HR.out.1, decide_eq_true HL.out]; rfl, by rw [← HZ.out]; exact HR.out.2⟩
      · have e : ((M.length : Int) == (n : Int)) = false := by simp; omega
        have HL := Lib.hid hl
        clear hl
        go_wp2
        go_ret
        exact ⟨by rw [HR.out.1, decide_eq_false HL.out]; rfl, by rw [← HZ.out]; exact HR.out.2⟩
end Of
end Go.Proofs.Ytjgakcpjphdicaa
