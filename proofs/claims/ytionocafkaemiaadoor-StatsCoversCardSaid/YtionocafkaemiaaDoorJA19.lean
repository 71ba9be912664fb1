/- slices.Repeat at areas. -/
import Derived.Test.YtionocafkaemiaaDoorJS3
import Derived.Test.YtionocafkaemiaaDoorJA18
import Derived.Deep.RegionLaw
namespace Go.Proofs.YtionocafkaemiaaDoor
open Go.RowKit Go.Lib
namespace Sx
attribute [local irreducible] wpQuiet

abbrev enA (a : Ar) : List Value := [.int .i64 a.h, .int .i64 a.l]
theorem ENA : Enc enA 2 := ⟨by omega, fun _ => rfl, fun x u h => by
  simp only [List.mem_cons, List.not_mem_nil, or_false] at h
  rcases h with rfl | rfl <;> rfl⟩
theorem area_row : (Tryd.prog.info? 31).map (fun i => (i.zero, i.size, i.bytes)) = some (some (.agg #[.int .i64 0, .int .i64 0]), 2, 16) := by kernel_rfl
theorem info_parts {P : Program} {t : TypeId} {z : Value} {s b : Nat} (h : (P.info? t).map (fun i => (i.zero, i.size, i.bytes)) = some (some z, s, b)) : ∃ i, P.info? t = some i ∧ i.zero = some z ∧ i.size = s ∧ i.bytes = b := by
  cases hi : P.info? t with
  | none => rw [hi] at h; cases h
  | some i => rw [hi] at h; simp at h; exact ⟨i, rfl, h.1, h.2.1, h.2.2⟩
/-- A row of areas whose first ones are one, and the others zero. -/
def repC (a : Ar) (m n : Nat) : List Value := ce enA (List.replicate m a ++ List.replicate (n - m) ⟨0, 0⟩)
theorem repC_len (a : Ar) {m n : Nat} (h : m ≤ n) : (repC a m n).length = n * 2 := by
  unfold repC
  rw [ce_len ENA]; simp; omega
theorem make_areas (w : World) (n : Nat) (hn : n ≤ 100000) :
    (Instr.makeSlice 87 (.int .i64 (n : Int)) (.int .i64 (n : Int))).run Tryd.prog w = .ok (.slice (some ⟨w.heap.size, 0, none⟩) n n) (w.alloc (.cells (repC ⟨0, 0⟩ 0 n).toArray 31)) := by
  obtain ⟨i0, hi, h0, h1, h2⟩ := info_parts area_row
  have := run_make (P := Tryd.prog) w 87 31 i0 (.agg #[.int .i64 0, .int .i64 0]) Tryd.underlying87 hi h0 .i64 .i64 n n (by omega) (by omega) (by rw [h2]; omega) (by omega)
  rw [this]
  have hm : madeCells (Value.agg #[.int .i64 0, .int .i64 0]).cells (n * i0.size) = (repC ⟨0, 0⟩ 0 n).toArray := by
    rw [h1]
    have e : repC ⟨0, 0⟩ 0 n = List.replicate (n * 2) (.int .i64 0) := by
      unfold repC
      rw [Nat.sub_zero, List.replicate_zero, List.nil_append]
      induction n with
      | zero => rfl
      | succ n ih =>
        rw [List.replicate_succ, Nat.succ_mul]
        show enA ⟨0, 0⟩ ++ ce enA (List.replicate n ⟨0, 0⟩) = _
        rw [ih (by omega) (by simpa using run_make (P := Tryd.prog) w 87 31 i0 (.agg #[.int .i64 0, .int .i64 0]) Tryd.underlying87 hi h0 .i64 .i64 n n (by omega) (by omega) (by rw [h2]; omega) (by omega))]
        rw [List.replicate_succ, List.replicate_succ]; rfl
    rw [e]
    apply Array.ext
    · simp [size_madeCells]
    · intro j h3 h4
      simp [madeCells, Value.cells]
      have : j % 2 = 0 ∨ j % 2 = 1 := by omega
      rcases this with h | h <;> simp [h]
  simp only [Int.toNat_natCast]
  rw [hm]
theorem repC_copy (a : Ar) {m n : Nat} (h : m ≤ n) : (repC a m n).take (m * 2) ++ ce enA (List.replicate (min m (n - m)) a) ++ (repC a m n).drop (m * 2 + (ce enA (List.replicate (min m (n - m)) a)).length) = repC a (m + min m (n - m)) n := by
  have e1 : (ce enA (List.replicate m a)).length = m * 2 := by rw [ce_len ENA]; simp
  have e2 : (ce enA (List.replicate (min m (n - m)) a)).length = min m (n - m) * 2 := by rw [ce_len ENA]; simp
  have e3 : List.replicate (n - m) (⟨0, 0⟩ : Ar) = List.replicate (min m (n - m)) ⟨0, 0⟩ ++ List.replicate (n - (m + min m (n - m))) ⟨0, 0⟩ := by
    rw [List.replicate_append_replicate]; congr 1; omega
  have e4 : (ce enA (List.replicate (min m (n - m)) (⟨0, 0⟩ : Ar))).length = min m (n - m) * 2 := by rw [ce_len ENA]; simp
  unfold repC
  rw [e2, e3, ce_add, ce_add, ce_add, ← List.replicate_append_replicate, ce_add]
  rw [List.take_append_of_le_length (by omega), List.take_of_length_le (by omega)]
  rw [List.drop_append, List.drop_of_length_le (by omega), e1, List.nil_append, List.drop_append, List.drop_of_length_le (by omega), e4]
  rw [show m * 2 + min m (n - m) * 2 - m * 2 - min m (n - m) * 2 = 0 by omega, List.drop_zero, List.nil_append]
theorem repC_first (a : Ar) {n : Nat} (h : 1 ≤ n) : (repC ⟨0, 0⟩ 0 n).take 0 ++ enA a ++ (repC ⟨0, 0⟩ 0 n).drop (0 + (enA a).length) = repC a 1 n := by
  obtain ⟨k, rfl⟩ : ∃ k, n = k + 1 := ⟨n - 1, by omega⟩
  unfold repC
  rw [Nat.sub_zero, List.replicate_zero, List.nil_append, List.replicate_succ]
  show [] ++ enA a ++ (enA ⟨0, 0⟩ ++ ce enA (List.replicate k ⟨0, 0⟩)).drop 2 = enA a ++ ce enA (List.replicate (k + 1 - 1) ⟨0, 0⟩)
  simp [enA]
theorem repC_src (a : Ar) {m n q : Nat} (_h : m ≤ n) (hq : q ≤ m) {w : World} {g T : Nat} (hg : w.heap[g]? = some (.cells (repC a m n).toArray T (0, 0))) : ∀ j v, (ce enA (List.replicate q a))[j]? = some v → w.cell? ((⟨g, 0, none⟩ : Addr).add j) = some v := by
  intro j v hv
  rw [add_plain, Nat.zero_add, cell_of_row _ _ _ _ _ _ hg]
  unfold repC
  rw [show List.replicate m a = List.replicate q a ++ List.replicate (m - q) a by rw [List.replicate_append_replicate]; congr 1; omega, ce_add, ce_add, List.append_assoc]
  have hj := (List.getElem?_eq_some_iff.1 hv).1
  simp only [List.getElem?_toArray]
  rw [List.getElem?_append_left hj]
  exact hv
theorem area_sz2 : (Tryd.prog.info? 31).map (·.size) = some 2 := by kernel_rfl
set_option maxRecDepth 100000 in
set_option maxHeartbeats 4000000 in
theorem repeat_ok (W : World) (g0 : Nat) (a : Ar) (n : Nat) (hn : 1 ≤ n) (hn2 : n ≤ 501) (h0 : W.heap[g0]? = some (.cells #[.int .i64 a.h, .int .i64 a.l] 31 (0, 0))) :
    Calls Tryd.prog 51 #[.slice (some ⟨g0, 0, none⟩) 1 1, .int .i64 (n : Int)] W fun e w' => e = .returned (.slice (some ⟨W.heap.size, 0, none⟩) n n) ∧ Below W.heap.size W w' ∧ w'.heap[W.heap.size]? = some (.cells (repC a n n).toArray 31 (0, 0)) := by
  have hM := Lib.hid (fun V => Any.bits_Mul Tryd.mul 1 n (by omega) (by omega) V)
  have e1 : 1 * n / 18446744073709551616 = 0 := by omega
  have e2 : 1 * n % 18446744073709551616 = n := by omega
  rw [e1, e2] at hM
  clear e1 e2
  have hmk := make_areas W n (by omega)
  have hnew := new_at W (.cells (repC ⟨0, 0⟩ 0 n).toArray 31)
  have hbn := below_box W (.cells (repC ⟨0, 0⟩ 0 n).toArray 31)
  have hg0 := lt_of_heap h0
  obtain ⟨V, hV⟩ : ∃ V, V = W.alloc (.cells (repC ⟨0, 0⟩ 0 n).toArray 31) := ⟨_, rfl⟩
  rw [← hV] at hmk hnew hbn
  obtain ⟨G, hG⟩ : ∃ G, G = W.heap.size := ⟨_, rfl⟩
  rw [← hG] at hmk hnew hg0 ⊢
  have hsrc : ∀ j v, (enA a)[j]? = some v → V.cell? ((⟨g0, 0, none⟩ : Addr).add j) = some v := by
    intro j v hv
    have hg0V : V.heap[g0]? = some (.cells #[.int .i64 a.h, .int .i64 a.l] 31 (0, 0)) := (hbn.block g0 (by omega)).trans h0
    rw [add_plain, Nat.zero_add, cell_of_row _ _ _ _ _ _ hg0V]
    rw [← hv]; simp [enA]
  have hc1 := run_copy_k V 87 87 3 31 2 G 0 n n ⟨g0, 0, none⟩ 1 1 (repC ⟨0, 0⟩ 0 n).toArray 31 (enA a) Tryd.underlying87 area_sz2 hnew (by rw [show Nat.min 1 n = 1 from Nat.min_eq_left hn]; rfl) hsrc (by simp [repC_len]; omega) (ENA.one a)
  rw [show Nat.min 1 n = 1 from Nat.min_eq_left hn] at hc1
  simp only at hc1
  rw [repC_first a hn] at hc1
  have hrow1 : (V.setRow G (repC a 1 n).toArray).heap[G]? = some (.cells (repC a 1 n).toArray 31 (0, 0)) := setRow_heap V G _ _ _ _ hnew
  have hb1 : Below W.heap.size W (V.setRow G (repC a 1 n).toArray) := below_setRow hbn (by omega) _
  have HX := Lib.hid (And.intro hb1 (And.intro hrow1 (And.intro hc1 hG)))
  clear hb1 hrow1 hc1 hsrc hnew hbn hV h0 hG hg0
  go_enter Tryd.func51, Tryd.ntmps51
  go_upto_region 7 with (go_at_call 77; refine (hM.out _).mono ?_; rintro e w1 ⟨rfl, hw⟩; have hw := hw.symm; subst hw)
  go_upto_region 8 with (refine wpList_plain rfl (fun K hK => wp_copy_run (.tmp 31) (.tmp 32) rfl _ _ _ rfl rfl _ HX.out.2.2.1 (hK _ _ ?_)))
  go_loopw [8] (fun i wr => ∃ m : Nat, 1 ≤ m ∧ m ≤ n ∧ i = .int .i64 (m : Int) ∧ wr.heap[G]? = some (.cells (repC a m n).toArray 31 (0, 0)) ∧ Below W.heap.size W wr) (fun i _ => n - (RowKit.intOf i).toNat)
  case atStart => exact ⟨1, Nat.le_refl _, hn, rfl, HX.out.2.1, HX.out.1⟩
  case round =>
    obtain ⟨m, hm1, hm2, rfl, hrow, hbw⟩ := hrel
    by_cases hlt : m < n
    · have hlti : (m : Int) < (n : Int) := by omega
      have hc := run_copy_k wr.drew 87 87 3 31 2 G (m * 2) (n - m) (n - m) ⟨G, 0, none⟩ m n (repC a m n).toArray 31 (ce enA (List.replicate (min m (n - m)) a)) Tryd.underlying87 area_sz2 hrow (by rw [ce_len ENA, List.length_replicate]) (repC_src a hm2 (Nat.min_le_left _ _) hrow) (by rw [ce_len ENA]; simp only [List.length_replicate, List.size_toArray, repC_len a hm2]; omega) (ce_one ENA _)
      simp only at hc
      rw [repC_copy a hm2] at hc
      have hrow2 : (wr.drew.setRow G (repC a (m + min m (n - m)) n).toArray).heap[G]? = some (.cells (repC a (m + min m (n - m)) n).toArray 31 (0, 0)) := setRow_heap wr.drew G _ _ _ _ hrow
      have hb2 : Below W.heap.size W (wr.drew.setRow G (repC a (m + min m (n - m)) n).toArray) := below_setRow (below_drew hbw) (by have := HX.out.2.2.2; omega) _
      obtain ⟨q, hq⟩ : ∃ q, q = min m (n - m) := ⟨_, rfl⟩
      rw [← hq] at hrow2 hb2
      have hc' : (Builtin.copy_ #[87, 87] 3 #[.slice (some ⟨G, m * 2, none⟩) (n - m) (n - m), .slice (some ⟨G, 0, none⟩) m n]).run Tryd.prog wr.drew = .ok (.int .i64 (q : Int)) (wr.drew.setRow G (repC a (m + q) n).toArray) := by rw [hq]; exact hc
      have hne : ¬ n = m := by omega
      have hq0 : 1 ≤ q ∧ m + q ≤ n := by omega
      have HR := Lib.hid (And.intro hrow2 hb2)
      clear hc hrow2 hb2 hq hrow hbw
      have htr : True := trivial
      obtain ⟨m2, hm2e⟩ : ∃ m2, m2 = m + q := ⟨_, rfl⟩
      have hsum : IntKind.i64.wrap ((m : Int) + (q : Int)) = (m2 : Int) := by rw [IntWalk.i64_in _ (by omega)]; omega
      have HM2 := Lib.hid hm2e
      clear hm2e
      go_upto_region 9 with (fail)
      go_region_held3 (fun _ => True) (first | trivial) (first | (fail))
      all_goals
        go_wp2_with (fail)
        go_roundw
        case rel => exact ⟨m2, by have := HM2.out; omega, by have := HM2.out; omega, rfl, by rw [HM2.out]; exact HR.out.1, HR.out.2⟩
        case measure => simp [RowKit.intOf]; have := HM2.out; omega
    · obtain rfl : m = n := by omega
      have HR := Lib.hid (And.intro hrow hbw)
      clear hrow hbw
      go_wp2_with (fail)
      go_ret
      exact ⟨rfl, by rw [HX.out.2.2.2]; exact HR.out.2, HR.out.1⟩
end Sx
end Go.Proofs.YtionocafkaemiaaDoor
