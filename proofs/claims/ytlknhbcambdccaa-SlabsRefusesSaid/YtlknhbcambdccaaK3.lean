/- The pages of a set, one after the other. New. carve. carve. -/
import Derived.Test.YtlknhbcambdccaaK2
import Derived.Laws.EntriesVeiled
namespace Go.Proofs.Ytlknhbcambdccaa
open Go.RowKit Go.Shelf
namespace Bu
attribute [local go_sem] Oper.semAt_some

theorem all_ok (w : World) (b o : Nat) :
    Calls Try.prog 73 #[.pointer (some ⟨b, o, none⟩)] w fun e w' => e = .returned (.func (.func 92) #[] #[.pointer (some ⟨w.heap.size, 0, none⟩)]) ∧
      w' = w.alloc (.cells #[.pointer (some ⟨b, o, none⟩)] 144) := by
  go_enter Try.func73, Try.ntmps73
  go_wp2
  go_ret
  exact ⟨rfl, rfl⟩

/-- What is left of the pages when a loop over them ends early. -/
def Upto (S : Nat → Bool) (pre : List Nat) : Prop := ∃ p, p < 1024 ∧ S p = true ∧ pre = members S (p + 1)

set_option maxRecDepth 100000 in
set_option maxHeartbeats 2000000 in
theorem allseq (n : Nat) (hn : 2 ≤ n) (b1 b o : Nat) (S : Nat → Bool) :
    SeqZ Fence.wide n Try.prog 92 #[.pointer (some ⟨b1, 0, none⟩)] (fun a : Nat => #[.int .i64 (a : Int)]) (fun W => b1 < W.heap.size ∧ W.cell? ⟨b1, 0, none⟩ = some (.pointer (some ⟨b, o, none⟩))) (fun W => SetAt W b o S)
      (fun k => k = b1) (fun xs => xs = members S 1024) (Upto S) (fun pre x => x < 1024 ∧ S x = true ∧ pre = members S x) := by
  intro l J Jx own0 W ⟨hbs, hD⟩ hR hE hf hFJ hFJx hY h0
  have HY := Lib.hid hY
  have HE := Lib.hid hE
  have hR1 := hR b1 rfl
  have HOR := Lib.hid hR1
  clear hY hR hE hR1
  have hfn : Fence.wide.fn 86 := trivial
  have hdp : Fence.wide.depth.isSome = false := rfl
  have hn1 : 1 ≤ n := by omega
  refine callsIn_of_wp Try.func92 rfl trivial ?_ rfl
  simp only [Try.ntmps92, List.size_toArray, List.length_cons, List.length_nil, Nat.reduceAdd, Nat.reduceSub, Array.replicate_succ, Array.replicate_zero, List.push_toArray, List.append_toArray, List.nil_append, List.cons_append]
  gi_wp2
  gi_loopw [4] (fun i wr => ∃ (k : Nat) (own : Ow), k ≤ 1024 ∧ i = .int .i64 k ∧ J own (members S k) wr ∧ Keeps own0 own W wr) (fun i _ => 1024 - (intOf i).toNat)
  case atStart => exact ⟨0, own0, Nat.zero_le _, rfl, h0, Keeps.refl _ _⟩
  case round =>
    obtain ⟨k, own, hk, rfl, hJ, hK⟩ := hrel
    by_cases hlt : k < 1024
    · have hc' : wr.cell? ⟨b1, 0, none⟩ = some (.pointer (some ⟨b, o, none⟩)) := (World.cell?_of_block (a := ⟨b1, 0, none⟩) (hK.block b1 hbs HOR.out)).trans hD
      have hset := HE.out own _ wr hJ
      have HH := Lib.hid ((callsIn_wide (n := n - 1)).2 (has_ok wr b o k S hset hlt))
      have hnx := members_next S k
      cases hS : S k with
      | true =>
        rw [hS] at HH
        rw [hS, if_pos rfl] at hnx
        obtain ⟨fn, tmps, assign, body, hy, hRd⟩ := HY.out own (members S k) k wr hJ (hf.keeps hK) ⟨hlt, hS, rfl⟩
        have HJ := Lib.hid (And.intro hJ (And.intro hK (And.intro hnx hS)))
        clear hJ hK hnx hS hset
        gi_wp2_with (gi_at_call 86; refine HH.out.mono ?_; rintro e w' ⟨rfl, rfl⟩)
        refine hRd.mono ?_
        rintro e W3 ⟨own3, hK3, (⟨rfl, hJ3⟩ | ⟨rfl, hJ3⟩)⟩
        · have H3 := Lib.hid (And.intro hJ3 hK3)
          clear hJ3 hK3
          gi_wp2
          go_roundw
          case rel => exact ⟨k + 1, own3, by omega, by go_num, by rw [HJ.out.2.2.1]; exact H3.out.1, HJ.out.2.1.trans H3.out.2⟩
          case measure => simp [intOf]; omega
        · have H3 := Lib.hid (And.intro hJ3 hK3)
          clear hJ3 hK3
          gi_wp2
          refine bodyPost_ret (results_none rfl _ _ _) rfl ?_
          exact ⟨⟨_, rfl⟩, own3, HJ.out.2.1.trans H3.out.2, .inr ⟨_, ⟨k, hlt, HJ.out.2.2.2, rfl⟩, by rw [HJ.out.2.2.1]; exact H3.out.1⟩⟩
      | false =>
        rw [hS] at HH
        rw [hS] at hnx
        have HJ := Lib.hid (And.intro hJ (And.intro hK hnx))
        clear hJ hK hnx hS hset
        gi_wp2_with (gi_at_call 86; refine HH.out.mono ?_; rintro e w' ⟨rfl, rfl⟩)
        refine ⟨fun f h => (by cases h), ?_⟩
        gi_wp2
        go_roundw
        case rel => exact ⟨k + 1, own, by omega, by go_num, by rw [HJ.out.2.2]; exact HJ.out.1, HJ.out.2.1⟩
        case measure => simp [intOf]; omega
    · obtain rfl : k = 1024 := by omega
      have HJ := Lib.hid (And.intro hJ hK)
      clear hJ hK
      gi_wp2
      go_end0
      exact ⟨⟨_, rfl⟩, own, HJ.out.2, .inl ⟨_, rfl, HJ.out.1⟩⟩
end Bu
end Go.Proofs.Ytlknhbcambdccaa
namespace Go.Proofs.Ytlknhbcambdccaa
open Go.RowKit
namespace Bu

theorem is_nil (w : World) : Calls Try.prog 47 #[.pointer none] w fun e w' => e = .returned (.bool false) ∧ w = w' := by
  go_enter Try.func47, Try.ntmps47
  go_wp2
  go_ret
  exact ⟨rfl, rfl⟩
theorem is_ok (w : World) (b N : Nat) (Fr Gv : Nat → Nat → Bool) (h : Bu w b N Fr Gv) : Calls Try.prog 47 #[.pointer (some ⟨b, 0, none⟩)] w fun e w' => e = .returned (.bool true) ∧ w = w' := by
  obtain ⟨h0, _⟩ := h.head
  clear h
  go_enter Try.func47, Try.ntmps47
  go_wp2
  go_ret
  exact ⟨rfl, rfl⟩

theorem zero_size : Try.zeroCells86.size = 354 := by kernel_rfl
theorem zero_cells : Try.zeroCells86.toList.drop 2 = List.replicate 352 (Value.int .u64 0) := by kernel_rfl
theorem zero_at (i : Nat) (h : i < 352) : Try.zeroCells86[2 + i]? = some (.int .u64 0) := by
  have h1 : (Try.zeroCells86.toList.drop 2)[i]? = some (.int .u64 0) := by
    rw [zero_cells, List.getElem?_replicate, if_pos h]
  rw [List.getElem?_drop] at h1
  simpa using h1

def noSets : Nat → Nat → Bool := fun _ _ => false
theorem zero_bu (w : World) (N : Nat) : Bu (w.alloc (.cells ((Try.zeroCells86.setIfInBounds 0 (.bool true)).setIfInBounds 1 (.int .i64 (N : Int))) 86)) w.heap.size N noSets noSets := by
  have hz := zero_size
  refine ⟨_, heap_alloc_new _ _, by simp [hz], ?_, ?_, fun k q hk hq => ⟨?_, ?_⟩⟩
  · rw [Array.getElem?_setIfInBounds, if_neg (by omega), Array.getElem?_setIfInBounds, if_pos rfl, if_pos (by omega)]
  · rw [Array.getElem?_setIfInBounds, if_pos rfl, if_pos (by simp [hz])]
  · rw [Array.getElem?_setIfInBounds, if_neg (by omega), Array.getElem?_setIfInBounds, if_neg (by omega), show 2 + k * 16 + q = 2 + (k * 16 + q) by omega, zero_at _ (by omega)]
    unfold noSets
    rw [word_zero]; rfl
  · rw [Array.getElem?_setIfInBounds, if_neg (by omega), Array.getElem?_setIfInBounds, if_neg (by omega), show 178 + k * 16 + q = 2 + (176 + k * 16 + q) by omega, zero_at _ (by omega)]
    unfold noSets
    rw [word_zero]; rfl

/-- The free blocks at the beginning. -/
def newFree (N : Nat) : Nat → Nat → Bool := upd noSets N (sadd (noSets N) 0)

set_option maxRecDepth 100000 in
set_option maxHeartbeats 2000000 in
theorem new_ok (w : World) (N : Nat) (hN : N ≤ 10) :
    Calls Try.prog 15 #[.int .i64 N] w fun e w' => e = .returned (.tuple #[.pointer (some ⟨w.heap.size, 0, none⟩), .int .i64 0]) ∧ Bu w' w.heap.size N (newFree N) noSets ∧ Below w.heap.size w w' := by
  have hB := zero_bu w N
  have hP := Lib.hid (put_ok _ w.heap.size (2 + N * 16) 0 (noSets N) (hB.free (by omega)) (by decide))
  have hF := Lib.hid (hB.putF (k := N) (p := 0) (by omega) (by decide))
  have hbw := Lib.hid (below_box w (.cells ((Try.zeroCells86.setIfInBounds 0 (.bool true)).setIfInBounds 1 (.int .i64 (N : Int))) 86))
  clear hB
  go_enter Try.func15, Try.ntmps15
  go_wp2_with (go_at_call 44; fail)
  generalize (w.alloc (.cells ((Try.zeroCells86.setIfInBounds 0 (.bool true)).setIfInBounds 1 (.int .i64 (N : Int))) 86)) = W at *
  refine hP.out.mono ?_
  rintro e w' ⟨rfl, rfl⟩
  go_wp2
  go_ret2
  exact ⟨rfl, hF.out, (hbw.out.setCell (p := ⟨w.heap.size, _, none⟩) (Nat.le_refl _) _).drew⟩
set_option maxHeartbeats 400000 in
theorem new_bad (w : World) (N : Int) (hN : N < 0 ∨ 10 < N) :
    Calls Try.prog 15 #[.int .i64 N] w fun e w' => e = .returned (.tuple #[.pointer none, .int .i64 7]) ∧ w = w' := by
  have hN2 : N < 0 ∨ (0 ≤ N ∧ 10 < N) := by omega
  clear hN
  rcases hN2 with h | ⟨h, h2⟩
  all_goals
    go_enter Try.func15, Try.ntmps15
    go_wp2
    go_ret2
    exact ⟨rfl, rfl⟩
end Bu
end Go.Proofs.Ytlknhbcambdccaa
namespace Go.Proofs.Ytlknhbcambdccaa
open Go.RowKit
namespace Bu

theorem sib_lt {page a : Nat} (hp : page < 1024) (ha : a < 10) : sib (page / 2 ^ a) * 2 ^ a < 1024 := by
  have h1 : 2 ^ a * 2 ^ (10 - a) = 1024 := by rw [← Nat.pow_add, show a + (10 - a) = 10 by omega]
  have h2 : page / 2 ^ a < 2 ^ (10 - a) := by
    rw [Nat.div_lt_iff_lt_mul (Nat.pow_pos (by decide)), Nat.mul_comm]
    omega
  have h3 : 2 ^ (10 - a) = 2 * 2 ^ (10 - (a + 1)) := pow_split 10 a (by omega)
  have h4 : sib (page / 2 ^ a) < 2 ^ (10 - a) := by
    have := sib_half (page / 2 ^ a)
    omega
  calc sib (page / 2 ^ a) * 2 ^ a < 2 ^ (10 - a) * 2 ^ a := Nat.mul_lt_mul_of_pos_right h4 (Nat.pow_pos (by decide))
    _ = 1024 := by rw [Nat.mul_comm]; exact h1

theorem pow_i64 (a : Nat) (ha : a ≤ 11) : IntKind.i64.wrap ((2 : Int) ^ a) = ((2 ^ a : Nat) : Int) := by
  have h := pow_small ha
  have e : (2 : Int) ^ a = ((2 ^ a : Nat) : Int) := by rw [Int.natCast_pow]; rfl
  rw [e, i64_wrap _ (by omega)]
theorem pow_i64_pred (a : Nat) (ha : a ≤ 11) : IntKind.i64.wrap (IntKind.i64.wrap ((2 : Int) ^ a) - 1) = ((2 ^ a : Nat) : Int) - 1 := by
  have h := pow_small ha
  rw [pow_i64 a ha, IntWalk.i64_in _ (by have := Nat.pow_pos (n := a) (show 0 < 2 by decide); omega)]
theorem off_val (page a : Nat) (hp : page < 1024) (ha : a ≤ 10) : bits .andNot .i64 (page : Int) (IntKind.i64.wrap (IntKind.i64.wrap ((2 : Int) ^ a) - 1)) = ((page / 2 ^ a * 2 ^ a : Nat) : Int) := by
  rw [pow_i64_pred a (by omega), mask_off page a (by omega) (by omega)]
theorem flip_val (page a : Nat) (hp : page < 1024) (ha : a ≤ 10) : bits .xor .i64 (bits .andNot .i64 (page : Int) (IntKind.i64.wrap (IntKind.i64.wrap ((2 : Int) ^ a) - 1))) (IntKind.i64.wrap ((2 : Int) ^ a)) = ((sib (page / 2 ^ a) * 2 ^ a : Nat) : Int) := by
  have h := Nat.div_mul_le_self page (2 ^ a)
  rw [off_val page a hp ha, pow_i64 a (by omega), flip_page _ _ (by omega) (by omega)]

set_option maxRecDepth 100000 in
set_option maxHeartbeats 1000000 in
theorem halve_ok (b N order page bo bb bp bh : Nat) (hp : page < 1024) (hne : bo ≠ b ∧ bb ≠ b ∧ bp ≠ b ∧ bh ≠ b) (j : Nat) : ∀ (w : World) (Fr Gv : Nat → Nat → Bool), order + j ≤ 10 → Bu w b N Fr Gv →
    w.cell? ⟨bo, 0, none⟩ = some (.int .i64 (order : Int)) → w.cell? ⟨bb, 0, none⟩ = some (.pointer (some ⟨b, 0, none⟩)) → w.cell? ⟨bp, 0, none⟩ = some (.int .i64 (page : Int)) →
    w.cell? ⟨bh, 0, none⟩ = some (.func (.func 93) #[] #[.pointer (some ⟨bo, 0, none⟩), .pointer (some ⟨bb, 0, none⟩), .pointer (some ⟨bp, 0, none⟩), .pointer (some ⟨bh, 0, none⟩)]) →
    Calls Try.prog 93 #[.int .i64 ((order + j : Nat) : Int), .pointer (some ⟨bo, 0, none⟩), .pointer (some ⟨bb, 0, none⟩), .pointer (some ⟨bp, 0, none⟩), .pointer (some ⟨bh, 0, none⟩)] w fun e w' => e = .returned (.tuple #[]) ∧ Bu w' b N (halves Fr order (order + j) page) Gv ∧ Grow1 b w w' := by
  induction j with
  | zero =>
    intro w Fr Gv _ hB c1 c2 c3 c4
    rw [Nat.add_zero, halves_none]
    have HB := Lib.hid hB
    have he : ((order : Int) == (order : Int)) = true := by simp
    clear hB
    go_enter Try.func93, Try.ntmps93
    go_wp2
    exact bodyPost_ret (results_none rfl _ _ _) rfl ⟨rfl, HB.out, Grow1.refl _ _⟩
  | succ j ih =>
    intro w Fr Gv hj hB c1 c2 c3 c4
    obtain ⟨a, ha⟩ : ∃ a, a = order + j := ⟨_, rfl⟩
    have he : (((a + 1 : Nat) : Int) == (order : Int)) = false := by rw [beq_eq_false_iff_ne]; omega
    rw [show order + (j + 1) = a + 1 by omega] at hj ⊢
    rw [← ha] at ih
    have hs := sib_lt (page := page) (a := a) hp (by omega)
    have hB1 := hB.putF (k := a) (p := sib (page / 2 ^ a) * 2 ^ a) (by omega) hs
    have hfr : ∀ x o, x ≠ b → (setW w.drew b (2 + a * 16) (sib (page / 2 ^ a) * 2 ^ a) (sadd (Fr a) (sib (page / 2 ^ a) * 2 ^ a))).cell? ⟨x, o, none⟩ = w.cell? ⟨x, o, none⟩ := fun x o hx => World.cell?_of_block (a := ⟨x, o, none⟩) (setW_far _ _ _ _ _ _ hx)
    have HP := Lib.hid (put_ok w.drew b (2 + a * 16) (sib (page / 2 ^ a) * 2 ^ a) (Fr a) (hB.free (by omega)) hs)
    have HI := Lib.hid (ih (setW w.drew b (2 + a * 16) (sib (page / 2 ^ a) * 2 ^ a) (sadd (Fr a) (sib (page / 2 ^ a) * 2 ^ a))) _ Gv (by omega) hB1 ((hfr bo 0 hne.1).trans c1) ((hfr bb 0 hne.2.1).trans c2) ((hfr bp 0 hne.2.2.1).trans c3) ((hfr bh 0 hne.2.2.2).trans c4))
    have c4' := (hfr bh 0 hne.2.2.2).trans c4
    have hnx : halves (upd Fr a (sadd (Fr a) (sib (page / 2 ^ a) * 2 ^ a))) order a page = halves Fr order (a + 1) page := halves_next Fr order a page (by omega)
    rw [hnx] at HI
    have HG := Lib.hid (setW_grow w.drew b (2 + a * 16) (sib (page / 2 ^ a) * 2 ^ a) (sadd (Fr a) (sib (page / 2 ^ a) * 2 ^ a)))
    have i1 : (0 : Int) ≤ (a : Int) := by omega
    have i2 : (a : Int) + 1 ≤ 10 := by omega
    have i3 : (a : Int) < 11 := by omega
    have w1 : IntKind.i64.wrap ((a : Int) + 1 - 1) = (a : Int) := by rw [IntWalk.i64_in _ (by omega)]; omega
    have w2 : IntKind.i64.wrap (a : Int) = (a : Int) := by rw [IntWalk.i64_in _ (by omega)]
    have ha10 : a ≤ 10 := by omega
    clear ih hB hB1 ha hj hs hfr hnx
    generalize setW w.drew b (2 + a * 16) (sib (page / 2 ^ a) * 2 ^ a) (sadd (Fr a) (sib (page / 2 ^ a) * 2 ^ a)) = W3 at *
    go_enter Try.func93, Try.ntmps93
    go_wp2_with fail
    have S0 : w.drew.cell? ⟨bb, 0, none⟩ = some (.pointer (some ⟨b, 0, none⟩)) ∧ w.drew.cell? ⟨bp, 0, none⟩ = some (.int .i64 (page : Int)) := ⟨c2, c3⟩
    go_region_with ((go_at_call 44; rw [flip_val page a hp ha10]; refine HP.out.mono ?_; rintro e w3 ⟨rfl, rfl⟩))
    all_goals
      go_wp2_with (first | (go_at_call 93; refine HI.out.mono ?_; rintro e w4 ⟨rfl, hB4, hg4⟩; have H4 := Lib.hid (And.intro hB4 hg4); clear hB4 hg4))
      go_end0
      exact ⟨rfl, H4.out.1, (Grow1.refl b w).drew.trans (HG.out.trans H4.out.2)⟩
end Bu
end Go.Proofs.Ytlknhbcambdccaa
namespace Go.Proofs.Ytlknhbcambdccaa
open Go.RowKit
namespace Bu

/-- The sets behind carve. -/
def carveF (Fr : Nat → Nat → Bool) (page order frm : Nat) : Nat → Nat → Bool := halves (upd Fr frm (sdel (Fr frm) (page / 2 ^ frm * 2 ^ frm))) order frm page
def putIn (Gv : Nat → Nat → Bool) (page order : Nat) : Nat → Nat → Bool := upd Gv order (sadd (Gv order) page)

theorem cell_of_block {w w' : World} {b o : Nat} (h : w'.heap[b]? = w.heap[b]?) : w'.cell? ⟨b, o, none⟩ = w.cell? ⟨b, o, none⟩ := World.cell?_of_block (a := ⟨b, o, none⟩) h

set_option maxRecDepth 100000 in
set_option maxHeartbeats 2000000 in
theorem carve_ok (w : World) (b N page order j : Nat) (Fr Gv : Nat → Nat → Bool) (hB : Bu w b N Fr Gv) (hp : page < 1024) (hj : order + j ≤ 10) :
    Calls Try.prog 74 #[.pointer (some ⟨b, 0, none⟩), .int .i64 page, .int .i64 order, .int .i64 ((order + j : Nat) : Int)] w fun e w' => e = .returned (.tuple #[]) ∧ Bu w' b N (carveF Fr page order (order + j)) (putIn Gv page order) ∧ Grow1 b w w' := by
  obtain ⟨a, ha⟩ : ∃ a, a = order + j := ⟨_, rfl⟩
  rw [← ha]
  have hbl := hB.lt
  have hoff : page / 2 ^ a * 2 ^ a < 1024 := Nat.lt_of_le_of_lt (Nat.div_mul_le_self _ _) hp
  -- the three boxes
  obtain ⟨W0, hW0⟩ : ∃ W0, W0 = ((w.alloc (.cells #[.pointer (some ⟨b, 0, none⟩)] 33)).alloc (.cells #[.int .i64 (page : Int)] 3)).alloc (.cells #[.int .i64 (order : Int)] 3) := ⟨_, rfl⟩
  have hs0 : W0.heap.size = w.heap.size + 3 := by rw [hW0]; simp
  have hk0 : ∀ k, k < w.heap.size → W0.heap[k]? = w.heap[k]? := fun k hk => by
    rw [hW0, alloc_old _ _ _ (by simp; omega), alloc_old _ _ _ (by simp; omega), alloc_old _ _ _ hk]
  have x0 : W0.cell? ⟨w.heap.size, 0, none⟩ = some (.pointer (some ⟨b, 0, none⟩)) := by
    refine (one_cell (T := 33) ?_).1
    rw [hW0, heapAlloc, if_neg (by simp; omega), heapAlloc, if_neg (by simp), heapAlloc, if_pos rfl]
  have x1 : W0.cell? ⟨w.heap.size + 1, 0, none⟩ = some (.int .i64 (page : Int)) := by
    refine (one_cell (T := 3) ?_).1
    rw [hW0, heapAlloc, if_neg (by simp), heapAlloc, if_pos (by simp)]
  have x2 : W0.cell? ⟨w.heap.size + 1 + 1, 0, none⟩ = some (.int .i64 (order : Int)) := by
    refine (one_cell (T := 3) ?_).1
    rw [hW0, heapAlloc, if_pos (by simp)]
  have hB0 : Bu W0 b N Fr Gv := hB.keep (hk0 b hbl)
  have hG0 : Grow1 b w W0 := by rw [hW0]; exact (((Grow1.refl b w).alloc _).alloc _).alloc _
  have HP1 := Lib.hid (take_ok W0.drew b (2 + a * 16) (page / 2 ^ a * 2 ^ a) (Fr a) (hB0.free (by omega)) hoff)
  have hB1 : Bu (setW W0.drew b (2 + a * 16) (page / 2 ^ a * 2 ^ a) (sdel (Fr a) (page / 2 ^ a * 2 ^ a))) b N (upd Fr a (sdel (Fr a) (page / 2 ^ a * 2 ^ a))) Gv := hB0.takeF (k := a) (p := page / 2 ^ a * 2 ^ a) (by omega) hoff
  have hG1 := setW_grow W0.drew b (2 + a * 16) (page / 2 ^ a * 2 ^ a) (sdel (Fr a) (page / 2 ^ a * 2 ^ a))
  have hs1 := setW_size W0.drew b (2 + a * 16) (page / 2 ^ a * 2 ^ a) (sdel (Fr a) (page / 2 ^ a * 2 ^ a))
  replace hs1 : (setW W0.drew b (2 + a * 16) (page / 2 ^ a * 2 ^ a) (sdel (Fr a) (page / 2 ^ a * 2 ^ a))).heap.size = w.heap.size + 3 := hs1.trans hs0
  have hf1 : ∀ x, x ≠ b → (setW W0.drew b (2 + a * 16) (page / 2 ^ a * 2 ^ a) (sdel (Fr a) (page / 2 ^ a * 2 ^ a))).heap[x]? = W0.heap[x]? := fun x hx => setW_far _ _ _ _ _ _ hx
  generalize setW W0.drew b (2 + a * 16) (page / 2 ^ a * 2 ^ a) (sdel (Fr a) (page / 2 ^ a * 2 ^ a)) = W1 at *
  -- the box of the closure
  have y0 : ∀ o, (W1.alloc o).cell? ⟨w.heap.size, 0, none⟩ = some (.pointer (some ⟨b, 0, none⟩)) := fun o => (cell_of_block ((alloc_old W1 o _ (by omega)).trans (hf1 _ (by omega)))).trans x0
  have y1 : ∀ o, (W1.alloc o).cell? ⟨w.heap.size + 1, 0, none⟩ = some (.int .i64 (page : Int)) := fun o => (cell_of_block ((alloc_old W1 o _ (by omega)).trans (hf1 _ (by omega)))).trans x1
  have y2 : ∀ o, (W1.alloc o).cell? ⟨w.heap.size + 1 + 1, 0, none⟩ = some (.int .i64 (order : Int)) := fun o => (cell_of_block ((alloc_old W1 o _ (by omega)).trans (hf1 _ (by omega)))).trans x2
  have hB2 : ∀ o, Bu (W1.alloc o) b N (upd Fr a (sdel (Fr a) (page / 2 ^ a * 2 ^ a))) Gv := fun o => hB1.keep (alloc_old W1 o b hB1.lt)
  have hG2 : ∀ o, Grow1 b W1 (W1.alloc o) := fun o => (Grow1.refl b W1).alloc o
  have HH := Lib.hid (halve_ok b N order page (w.heap.size + 1 + 1) w.heap.size (w.heap.size + 1) (w.heap.size + 3) hp (by omega) j (W1.alloc (.cells #[.func (.func 93) #[] #[.pointer (some ⟨w.heap.size + 1 + 1, 0, none⟩), .pointer (some ⟨w.heap.size, 0, none⟩), .pointer (some ⟨w.heap.size + 1, 0, none⟩), .pointer (some ⟨w.heap.size + 3, 0, none⟩)]] 105)) _ Gv hj (hB2 _) (y2 _) (y0 _) (y1 _) (by
    refine (one_cell (T := 105) ?_).1
    rw [heapAlloc, if_pos hs1.symm]))
  rw [← ha] at HH
  have HF := Lib.hid (And.intro hG0 (And.intro hG1 (And.intro hG2 (And.intro y0 (And.intro y1 y2)))))
  have hsz2 : ∀ o, (W1.alloc o).heap.size = w.heap.size + 4 := fun o => by simp; omega
  have ha10 : a ≤ 10 := by omega
  have i1 : (0 : Int) ≤ (a : Int) := by omega
  have i3 : (a : Int) < 11 := by omega
  have i4 : (0 : Int) ≤ (order : Int) := by omega
  have i5 : (order : Int) < 11 := by omega
  have ho11 : order < 11 := by omega
  have HS2 := Lib.hid hsz2
  clear hB hB0 hB1 hB2 hG0 hG1 hG2 hk0 hf1 y0 y1 y2 ha hj hoff hsz2
  go_enter Try.func74, Try.ntmps74
  go_wp2_with fail
  rw [← hW0]
  clear hW0
  go_cut [19] from 9 to 19 (fun _ wx => wx = W1)
  case first =>
    go_region_with ((go_at_call 91; rw [off_val page a hp ha10]; refine HP1.out.mono ?_; rintro e w3 ⟨rfl, rfl⟩))
    all_goals
      go_wp2_with (fail)
      go_meet
      rfl
  case rest =>
    rw [hcut]
    clear hcut
    have hW1b : b < W1.heap.size := by omega
    go_wp2_with (go_at_call 93; fail)
    refine HH.out.mono ?_
    rintro e w4 ⟨rfl, hB4, hg4⟩
    have hgs := hg4.size
    have z0 := (cell_of_block (o := 0) (hg4.block w.heap.size (by rw [HS2.out]; omega) (by omega))).trans (HF.out.2.2.2.1 _)
    have z1 := (cell_of_block (o := 0) (hg4.block (w.heap.size + 1) (by rw [HS2.out]; omega) (by omega))).trans (HF.out.2.2.2.2.1 _)
    have z2 := (cell_of_block (o := 0) (hg4.block (w.heap.size + 1 + 1) (by rw [HS2.out]; omega) (by omega))).trans (HF.out.2.2.2.2.2 _)
    have HP2 := Lib.hid (put_ok w4.drew b (178 + order * 16) page (Gv order) (hB4.given ho11) hp)
    have HB5 := Lib.hid (And.intro (Bu.putG (w := w4.drew) hB4.drew (k := order) (p := page) ho11 hp) hg4)
    clear hB4 hg4 hgs
    go_wp2_with fail
    go_region_with ((go_at_call 44; refine HP2.out.mono ?_; rintro e w5 ⟨rfl, rfl⟩))
    all_goals
      go_wp2
      go_end0
      exact ⟨rfl, HB5.out.1, HF.out.1.trans ((Grow1.refl b W0).drew.trans (HF.out.2.1.trans ((HF.out.2.2.1 _).trans (HB5.out.2.trans ((Grow1.refl b w4).drew.trans (setW_grow _ _ _ _ _))))))⟩
end Bu
end Go.Proofs.Ytlknhbcambdccaa
