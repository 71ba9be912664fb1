/- The sets: has, put, take. The pages of a set, one after the other. New. -/
import Derived.Test.YtdanhbbdkcbapaaProg
import Derived.Test.YtdanhbbdkcbapaaK1
namespace Go.Proofs.Ytdanhbbdkcbapaa
open Go.RowKit
namespace Bu

theorem has_int (S : Nat → Bool) (p : Nat) : (bits .and .u64 ((word S (p / 64) : Int) / 2 ^ (p % 64)) 1 == 1) = S p := by
  have h := has_word S p
  have e : ((word S (p / 64) / 2 ^ (p % 64) : Nat) : Int) = (word S (p / 64) : Int) / 2 ^ (p % 64) := by rw [Int.natCast_ediv, Int.natCast_pow]; rfl
  rw [e] at h
  show (bits .and .u64 ((word S (p / 64) : Int) / 2 ^ (p % 64)) ((1 : Nat) : Int) == 1) = S p
  rw [h]
  cases S p <;> rfl

set_option maxHeartbeats 400000 in
theorem has_ok (w : World) (b o p : Nat) (S : Nat → Bool) (h : SetAt w b o S) (hp : p < 1024) :
    Calls Try.prog 35 #[.pointer (some ⟨b, o, none⟩), .int .i64 p] w fun e w' => e = .returned (.bool (S p)) ∧ w = w' := by
  obtain ⟨hc, hf⟩ := h (p / 64) (by omega)
  have hb := has_word S p
  have HS := Lib.hid (And.intro h hb)
  clear h hb
  go_enter Try.func35, Try.ntmps35
  go_wp2
  go_ret
  exact ⟨by rw [← has_int S p]; rfl, rfl⟩

theorem pow_wrap (p : Nat) : IntKind.u64.wrap ((2 : Int) ^ (p % 64)) = ((2 ^ (p % 64) : Nat) : Int) := by
  have e : (2 : Int) ^ (p % 64) = ((2 ^ (p % 64) : Nat) : Int) := by rw [Int.natCast_pow]; rfl
  rw [e, u64_wrap _ (pow_lt_u64 (Nat.mod_lt _ (by decide)))]
theorem put_int (S : Nat → Bool) (p : Nat) : bits .or .u64 (word S (p / 64) : Int) (IntKind.u64.wrap (2 ^ (p % 64))) = (word (sadd S p) (p / 64) : Int) := by
  rw [pow_wrap, put_word]
theorem take_int (S : Nat → Bool) (p : Nat) : bits .andNot .u64 (word S (p / 64) : Int) (IntKind.u64.wrap (2 ^ (p % 64))) = (word (sdel S p) (p / 64) : Int) := by
  rw [pow_wrap, take_word]

/-- The world where a set has turned. -/
def setW (w : World) (b o p : Nat) (S : Nat → Bool) : World := (w.setCell ⟨b, o + p / 64, none⟩ (.int .u64 (word S (p / 64)))).drew

set_option maxHeartbeats 1000000 in
theorem put_ok (w : World) (b o p : Nat) (S : Nat → Bool) (h : SetAt w b o S) (hp : p < 1024) :
    Calls Try.prog 37 #[.pointer (some ⟨b, o, none⟩), .int .i64 p] w fun e w' => e = .returned (.tuple #[]) ∧ w' = setW w b o p (sadd S p) := by
  obtain ⟨hc, hf⟩ := h (p / 64) (by omega)
  clear h
  go_enter Try.func37, Try.ntmps37
  go_wp2
  go_region
  go_end0
  exact ⟨rfl, by rw [put_int]; rfl⟩

set_option maxHeartbeats 1000000 in
theorem take_ok (w : World) (b o p : Nat) (S : Nat → Bool) (h : SetAt w b o S) (hp : p < 1024) :
    Calls Try.prog 36 #[.pointer (some ⟨b, o, none⟩), .int .i64 p] w fun e w' => e = .returned (.tuple #[]) ∧ w' = setW w b o p (sdel S p) := by
  obtain ⟨hc, hf⟩ := h (p / 64) (by omega)
  clear h
  go_enter Try.func36, Try.ntmps36
  go_wp2
  go_region
  go_end0
  exact ⟨rfl, by rw [take_int]; rfl⟩

/-- An allocator of this program. -/
abbrev Bu (w : World) (b N : Nat) (Fr Gv : Nat → Nat → Bool) : Prop := BuAt 58 w b N Fr Gv
theorem Bu.putF {w : World} {b N : Nat} {Fr Gv : Nat → Nat → Bool} (h : Bu w b N Fr Gv) {k p : Nat} (hk : k < 11) (hp : p < 1024) : Bu (setW w b (2 + k * 16) p (sadd (Fr k) p)) b N (upd Fr k (sadd (Fr k) p)) Gv :=
  (h.setF hk (by omega) fun x hx => sadd_far _ _ _ hx).drew
theorem Bu.takeF {w : World} {b N : Nat} {Fr Gv : Nat → Nat → Bool} (h : Bu w b N Fr Gv) {k p : Nat} (hk : k < 11) (hp : p < 1024) : Bu (setW w b (2 + k * 16) p (sdel (Fr k) p)) b N (upd Fr k (sdel (Fr k) p)) Gv :=
  (h.setF hk (by omega) fun x hx => sdel_far _ _ _ hx).drew
theorem Bu.putG {w : World} {b N : Nat} {Fr Gv : Nat → Nat → Bool} (h : Bu w b N Fr Gv) {k p : Nat} (hk : k < 11) (hp : p < 1024) : Bu (setW w b (178 + k * 16) p (sadd (Gv k) p)) b N Fr (upd Gv k (sadd (Gv k) p)) :=
  (h.setG hk (by omega) fun x hx => sadd_far _ _ _ hx).drew
theorem Bu.takeG {w : World} {b N : Nat} {Fr Gv : Nat → Nat → Bool} (h : Bu w b N Fr Gv) {k p : Nat} (hk : k < 11) (hp : p < 1024) : Bu (setW w b (178 + k * 16) p (sdel (Gv k) p)) b N Fr (upd Gv k (sdel (Gv k) p)) :=
  (h.setG hk (by omega) fun x hx => sdel_far _ _ _ hx).drew
theorem setW_far (w : World) (b o p : Nat) (S : Nat → Bool) (k : Nat) (h : k ≠ b) : (setW w b o p S).heap[k]? = w.heap[k]? := setCell_far _ _ _ _ h
theorem setW_grow (w : World) (b o p : Nat) (S : Nat → Bool) : Grow1 b w (setW w b o p S) := ((Grow1.refl b w).setCell _ _).drew
theorem setW_size (w : World) (b o p : Nat) (S : Nat → Bool) : (setW w b o p S).heap.size = w.heap.size := setCell_size _ _ _
end Bu
end Go.Proofs.Ytdanhbbdkcbapaa
namespace Go.Proofs.Ytdanhbbdkcbapaa
open Go.RowKit Go.Shelf
namespace Bu
attribute [local go_sem] Oper.semAt_some

theorem all_ok (w : World) (b o : Nat) :
    Calls Try.prog 31 #[.pointer (some ⟨b, o, none⟩)] w fun e w' => e = .returned (.func (.func 48) #[] #[.pointer (some ⟨w.heap.size, 0, none⟩)]) ∧
      w' = w.alloc (.cells #[.pointer (some ⟨b, o, none⟩)] 89) := by
  go_enter Try.func31, Try.ntmps31
  go_wp2
  go_ret
  exact ⟨rfl, rfl⟩

/-- What is left of the pages when a loop over them ends early. -/
def Upto (S : Nat → Bool) (pre : List Nat) : Prop := ∃ p, p < 1024 ∧ S p = true ∧ pre = members S (p + 1)

set_option maxRecDepth 100000 in
set_option maxHeartbeats 2000000 in
theorem allseq (n : Nat) (hn : 2 ≤ n) (b1 b o : Nat) (S : Nat → Bool) :
    SeqZ Fence.wide n Try.prog 48 #[.pointer (some ⟨b1, 0, none⟩)] (fun a : Nat => #[.int .i64 (a : Int)]) (fun W => b1 < W.heap.size ∧ W.cell? ⟨b1, 0, none⟩ = some (.pointer (some ⟨b, o, none⟩))) (fun W => SetAt W b o S)
      (fun k => k = b1) (fun xs => xs = members S 1024) (Upto S) (fun pre x => x < 1024 ∧ S x = true ∧ pre = members S x) := by
  intro l J Jx own0 W ⟨hbs, hD⟩ hR hE hf hFJ hFJx hY h0
  have HY := Lib.hid hY
  have HE := Lib.hid hE
  have hR1 := hR b1 rfl
  have HOR := Lib.hid hR1
  clear hY hR hE hR1
  have hfn : Fence.wide.fn 35 := trivial
  have hdp : Fence.wide.depth.isSome = false := rfl
  have hn1 : 1 ≤ n := by omega
  refine callsIn_of_wp Try.func48 rfl trivial ?_ rfl
  simp only [Try.ntmps48, List.size_toArray, List.length_cons, List.length_nil, Nat.reduceAdd, Nat.reduceSub, Array.replicate_succ, Array.replicate_zero, List.push_toArray, List.append_toArray, List.nil_append, List.cons_append]
  gi_wp2
  gi_loopw [4] (fun i wr => ∃ (k : Nat) (own : Ow), k ≤ 1024 ∧ i = .int .i64 k ∧ J own (members S k) wr ∧ Keeps own0 own W wr) (fun i _ => 1024 - (intOf i).toNat)
  case atStart => exact ⟨0, own0, Nat.zero_le _, rfl, h0, Keeps.refl _ _⟩
  case round =>
    obtain ⟨k, own, hk, rfl, hJ, hK⟩ := hrel
    by_cases hlt : k < 1024
    · have hc' : wr.cell? ⟨b1, 0, none⟩ = some (.pointer (some ⟨b, o, none⟩)) := (World.cell?_of_block (a := ⟨b1, 0, none⟩) (hK.block b1 hbs HOR.out)).trans hD
      have hset := HE.out own _ wr hJ
      have HH := Lib.hid ((callsIn_wide (n := n - 1)).2 (has_ok wr b o k S hset hlt))
      have hnx := members_next S k
      cases hS : S k with
      | true =>
        rw [hS] at HH
        rw [hS, if_pos rfl] at hnx
        obtain ⟨fn, tmps, assign, body, hy, hRd⟩ := HY.out own (members S k) k wr hJ (hf.keeps hK) ⟨hlt, hS, rfl⟩
        have HJ := Lib.hid (And.intro hJ (And.intro hK (And.intro hnx hS)))
        clear hJ hK hnx hS hset
        gi_wp2_with (gi_at_call 35; refine HH.out.mono ?_; rintro e w' ⟨rfl, rfl⟩)
        refine hRd.mono ?_
        rintro e W3 ⟨own3, hK3, (⟨rfl, hJ3⟩ | ⟨rfl, hJ3⟩)⟩
        · have H3 := Lib.hid (And.intro hJ3 hK3)
          clear hJ3 hK3
          gi_wp2
          go_roundw
          case rel => exact ⟨k + 1, own3, by omega, by go_num, by rw [HJ.out.2.2.1]; exact H3.out.1, HJ.out.2.1.trans H3.out.2⟩
          case measure => simp [intOf]; omega
        · have H3 := Lib.hid (And.intro hJ3 hK3)
          clear hJ3 hK3
          gi_wp2
          refine bodyPost_ret (results_none rfl _ _ _) rfl ?_
          exact ⟨⟨_, rfl⟩, own3, HJ.out.2.1.trans H3.out.2, .inr ⟨_, ⟨k, hlt, HJ.out.2.2.2, rfl⟩, by rw [HJ.out.2.2.1]; exact H3.out.1⟩⟩
      | false =>
        rw [hS] at HH
        rw [hS] at hnx
        have HJ := Lib.hid (And.intro hJ (And.intro hK hnx))
        clear hJ hK hnx hS hset
        gi_wp2_with (gi_at_call 35; refine HH.out.mono ?_; rintro e w' ⟨rfl, rfl⟩)
        refine ⟨fun f h => (by cases h), ?_⟩
        gi_wp2
        go_roundw
        case rel => exact ⟨k + 1, own, by omega, by go_num, by rw [HJ.out.2.2]; exact HJ.out.1, HJ.out.2.1⟩
        case measure => simp [intOf]; omega
    · obtain rfl : k = 1024 := by omega
      have HJ := Lib.hid (And.intro hJ hK)
      clear hJ hK
      gi_wp2
      go_end0
      exact ⟨⟨_, rfl⟩, own, HJ.out.2, .inl ⟨_, rfl, HJ.out.1⟩⟩
end Bu
end Go.Proofs.Ytdanhbbdkcbapaa
namespace Go.Proofs.Ytdanhbbdkcbapaa
open Go.RowKit
namespace Bu

theorem is_nil (w : World) : Calls Try.prog 29 #[.pointer none] w fun e w' => e = .returned (.bool false) ∧ w = w' := by
  go_enter Try.func29, Try.ntmps29
  go_wp2
  go_ret
  exact ⟨rfl, rfl⟩
theorem is_ok (w : World) (b N : Nat) (Fr Gv : Nat → Nat → Bool) (h : Bu w b N Fr Gv) : Calls Try.prog 29 #[.pointer (some ⟨b, 0, none⟩)] w fun e w' => e = .returned (.bool true) ∧ w = w' := by
  obtain ⟨h0, _⟩ := h.head
  clear h
  go_enter Try.func29, Try.ntmps29
  go_wp2
  go_ret
  exact ⟨rfl, rfl⟩

theorem zero_size : Try.zeroCells58.size = 354 := by kernel_rfl
theorem zero_cells : Try.zeroCells58.toList.drop 2 = List.replicate 352 (Value.int .u64 0) := by kernel_rfl
theorem zero_at (i : Nat) (h : i < 352) : Try.zeroCells58[2 + i]? = some (.int .u64 0) := by
  have h1 : (Try.zeroCells58.toList.drop 2)[i]? = some (.int .u64 0) := by
    rw [zero_cells, List.getElem?_replicate, if_pos h]
  rw [List.getElem?_drop] at h1
  simpa using h1

def noSets : Nat → Nat → Bool := fun _ _ => false
theorem zero_bu (w : World) (N : Nat) : Bu (w.alloc (.cells ((Try.zeroCells58.setIfInBounds 0 (.bool true)).setIfInBounds 1 (.int .i64 (N : Int))) 58)) w.heap.size N noSets noSets := by
  have hz := zero_size
  refine ⟨_, heap_alloc_new _ _, by simp [hz], ?_, ?_, fun k q hk hq => ⟨?_, ?_⟩⟩
  · rw [Array.getElem?_setIfInBounds, if_neg (by omega), Array.getElem?_setIfInBounds, if_pos rfl, if_pos (by omega)]
  · rw [Array.getElem?_setIfInBounds, if_pos rfl, if_pos (by simp [hz])]
  · rw [Array.getElem?_setIfInBounds, if_neg (by omega), Array.getElem?_setIfInBounds, if_neg (by omega), show 2 + k * 16 + q = 2 + (k * 16 + q) by omega, zero_at _ (by omega)]
    unfold noSets
    rw [word_zero]; rfl
  · rw [Array.getElem?_setIfInBounds, if_neg (by omega), Array.getElem?_setIfInBounds, if_neg (by omega), show 178 + k * 16 + q = 2 + (176 + k * 16 + q) by omega, zero_at _ (by omega)]
    unfold noSets
    rw [word_zero]; rfl

/-- The free blocks at the beginning. -/
def newFree (N : Nat) : Nat → Nat → Bool := upd noSets N (sadd (noSets N) 0)

set_option maxRecDepth 100000 in
set_option maxHeartbeats 2000000 in
theorem new_ok (w : World) (N : Nat) (hN : N ≤ 10) :
    Calls Try.prog 26 #[.int .i64 N] w fun e w' => e = .returned (.tuple #[.pointer (some ⟨w.heap.size, 0, none⟩), .int .i64 0]) ∧ Bu w' w.heap.size N (newFree N) noSets ∧ Below w.heap.size w w' := by
  have hB := zero_bu w N
  have hP := Lib.hid (put_ok _ w.heap.size (2 + N * 16) 0 (noSets N) (hB.free (by omega)) (by decide))
  have hF := Lib.hid (hB.putF (k := N) (p := 0) (by omega) (by decide))
  have hbw := Lib.hid (below_box w (.cells ((Try.zeroCells58.setIfInBounds 0 (.bool true)).setIfInBounds 1 (.int .i64 (N : Int))) 58))
  clear hB
  go_enter Try.func26, Try.ntmps26
  go_wp2_with (go_at_call 37; fail)
  generalize (w.alloc (.cells ((Try.zeroCells58.setIfInBounds 0 (.bool true)).setIfInBounds 1 (.int .i64 (N : Int))) 58)) = W at *
  refine hP.out.mono ?_
  rintro e w' ⟨rfl, rfl⟩
  go_wp2
  go_ret2
  exact ⟨rfl, hF.out, (hbw.out.setCell (p := ⟨w.heap.size, _, none⟩) (Nat.le_refl _) _).drew⟩
set_option maxHeartbeats 400000 in
theorem new_bad (w : World) (N : Int) (hN : N < 0 ∨ 10 < N) :
    Calls Try.prog 26 #[.int .i64 N] w fun e w' => e = .returned (.tuple #[.pointer none, .int .i64 7]) ∧ w = w' := by
  have hN2 : N < 0 ∨ (0 ≤ N ∧ 10 < N) := by omega
  clear hN
  rcases hN2 with h | ⟨h, h2⟩
  all_goals
    go_enter Try.func26, Try.ntmps26
    go_wp2
    go_ret2
    exact ⟨rfl, rfl⟩
end Bu
end Go.Proofs.Ytdanhbbdkcbapaa
