/- Room counts the free blocks of an order. No program here. The walk of BuddyRoom. The arguments: a state, a slice of blocks. (open_slice_fields and open_agg2 are after the guide's own worked blocks.) -/
import Derived.Test.YtdanhbbdkcbapaaK10
import Derived.Test.YtdanhbbdkcbapaaK16
import Derived.WalkKit
import Derived.ProofKit
import Derived.OpenShut
import Derived.ChangeOld
import Derived.Below
import Derived.Deep.Slices
import Derived.Deep.Fields
import Derived.ChangeSame
import Derived.Lib.SmallJoins
namespace Go.Proofs.Ytdanhbbdkcbapaa
namespace Bu

/-- The indices of the free blocks of an order. -/
def freeIdx (N : Nat) (L : List Blk) (n : Nat) : List Nat := (List.range (2 ^ (N - n))).filter fun i => freeB L (i * 2 ^ n) n

theorem natasc_eq : ∀ {A B : List Nat}, A.Pairwise (· < ·) → B.Pairwise (· < ·) → (∀ x, x ∈ A ↔ x ∈ B) → A = B := by
  intro A
  induction A with
  | nil =>
    intro B _ _ h
    cases B with
    | nil => rfl
    | cons y B => exact absurd ((h y).2 (List.mem_cons_self ..)) (by simp)
  | cons x A ih =>
    intro B hA hB h
    cases B with
    | nil => exact absurd ((h x).1 (List.mem_cons_self ..)) (by simp)
    | cons y B =>
      rw [List.pairwise_cons] at hA hB
      have e : x = y := by
        rcases List.mem_cons.1 ((h x).1 (List.mem_cons_self ..)) with e | e
        · exact e
        · rcases List.mem_cons.1 ((h y).2 (List.mem_cons_self ..)) with e2 | e2
          · exact e2.symm
          · have := hB.1 x e; have := hA.1 y e2; omega
      subst e
      congr 1
      refine ih hA.2 hB.2 fun z => ⟨fun hz => ?_, fun hz => ?_⟩
      · rcases List.mem_cons.1 ((h z).1 (List.mem_cons_of_mem _ hz)) with e | e
        · subst e; have := hA.1 _ hz; omega
        · exact e
      · rcases List.mem_cons.1 ((h z).2 (List.mem_cons_of_mem _ hz)) with e | e
        · subst e; have := hB.1 _ hz; omega
        · exact e

/-- The blocks of an order that lie in a block. -/
def parts (n : Nat) (x : Blk) : List Nat := if n ≤ x.2 then (List.range (2 ^ (x.2 - n))).map fun d => x.1 / 2 ^ n + d else []

theorem parts_len (n : Nat) (x : Blk) : (parts n x).length = if n ≤ x.2 then 2 ^ (x.2 - n) else 0 := by
  unfold parts; split <;> simp

theorem mem_parts {n : Nat} {x : Blk} (hx : x.1 % 2 ^ x.2 = 0) {i : Nat} : i ∈ parts n x ↔ n ≤ x.2 ∧ x.1 ≤ i * 2 ^ n ∧ i * 2 ^ n < x.1 + 2 ^ x.2 := by
  unfold parts
  by_cases h : n ≤ x.2
  · rw [if_pos h, List.mem_map]
    have hm := mul_div (mod_mul_of_le h hx)
    have hp := pow_pos2 n
    obtain ⟨q, hq⟩ : ∃ q, q = x.1 / 2 ^ n := ⟨_, rfl⟩
    rw [← hq] at hm ⊢
    have hs : 2 ^ x.2 = 2 ^ (x.2 - n) * 2 ^ n := by rw [← Nat.pow_add, Nat.sub_add_cancel h]
    constructor
    · rintro ⟨d, hd, rfl⟩
      have hd := List.mem_range.1 hd
      refine ⟨h, ?_, ?_⟩
      · rw [← hm]; exact Nat.mul_le_mul_right _ (by omega)
      · rw [← hm, hs, ← Nat.add_mul]; exact Nat.mul_lt_mul_of_pos_right (by omega) hp
    · rintro ⟨_, h1, h2⟩
      rw [← hm] at h1
      rw [← hm, hs, ← Nat.add_mul] at h2
      have g1 := Nat.le_of_mul_le_mul_right h1 hp
      have g2 := Nat.lt_of_mul_lt_mul_right h2
      exact ⟨i - q, List.mem_range.2 (by omega), by omega⟩
  · rw [if_neg h]
    exact ⟨fun hx => (by cases hx), fun hx => absurd hx.1 h⟩

theorem parts_asc (n : Nat) (x : Blk) : (parts n x).Pairwise (· < ·) := by
  unfold parts
  split
  · refine List.pairwise_map.2 ?_
    exact List.pairwise_lt_range.imp (by intro a b h; omega)
  · exact List.Pairwise.nil

theorem flat_asc {n : Nat} : ∀ {B : List Blk}, (∀ x ∈ B, x.1 % 2 ^ x.2 = 0) → B.Pairwise (fun a b => a.1 + 2 ^ a.2 ≤ b.1) → (B.flatMap (parts n)).Pairwise (· < ·) := by
  intro B
  induction B with
  | nil => intro _ _; exact List.Pairwise.nil
  | cons x B ih =>
    intro ha hp
    rw [List.pairwise_cons] at hp
    rw [List.flatMap_cons, List.pairwise_append]
    refine ⟨parts_asc n x, ih (fun y hy => ha y (List.mem_cons_of_mem _ hy)) hp.2, fun i hi j hj => ?_⟩
    obtain ⟨y, hy, hj⟩ := List.mem_flatMap.1 hj
    obtain ⟨_, _, h2⟩ := (mem_parts (ha x (List.mem_cons_self ..))).1 hi
    obtain ⟨_, h3, _⟩ := (mem_parts (ha y (List.mem_cons_of_mem _ hy))).1 hj
    have := hp.1 y hy
    exact Nat.lt_of_mul_lt_mul_right (a := 2 ^ n) (by omega)

theorem mem_free_parts {N : Nat} {L : List Blk} (hS : St N L) {n : Nat} (hn : n ≤ N) (i : Nat) : i ∈ (blocksB N L).flatMap (parts n) ↔ i ∈ freeIdx N L n := by
  have hp := pow_pos2 n
  unfold freeIdx
  rw [List.mem_flatMap, List.mem_filter, List.mem_range]
  have hal : i * 2 ^ n % 2 ^ n = 0 := Nat.mul_mod_left _ _
  have hf := freeB_iff hS.inb hal
  rw [first] at hf
  have hs : 2 ^ N = 2 ^ (N - n) * 2 ^ n := by rw [← Nat.pow_add, Nat.sub_add_cancel hn]
  constructor
  · rintro ⟨x, hx, hi⟩
    have hx := (mem_blocks hS x).1 hx
    obtain ⟨h1, h2, h3⟩ := (mem_parts hx.1).1 hi
    have hlt := hx.lt.1
    refine ⟨?_, hf.2 ?_⟩
    · exact Nat.lt_of_mul_lt_mul_right (a := 2 ^ n) (by rw [← hs]; omega)
    · obtain ⟨m, hm⟩ := Nat.exists_eq_add_of_le h1
      refine Free.mono m ?_
      have e1 := (within hx.1).1 ⟨h2, h3⟩
      have : i / 2 ^ m = x.1 / 2 ^ x.2 := by
        rw [← e1, hm, div_pow, first]
      rw [this, ← hm]
      exact hx.2.2.2.1
  · rintro ⟨h1, h2⟩
    obtain ⟨m, hm⟩ := around hn h1 (hf.1 h2)
    refine ⟨(i / 2 ^ m * 2 ^ (n + m), n + m), (mem_blocks hS _).2 ⟨Nat.mul_mod_left _ _, by rw [first]; exact hm⟩, ?_⟩
    refine (mem_parts (Nat.mul_mod_left _ _)).2 ⟨Nat.le_add_right _ _, ?_⟩
    refine (within (Nat.mul_mod_left _ _)).2 ?_
    rw [first, div_pow, first]

theorem room_count {N : Nat} {L : List Blk} (hS : St N L) {n : Nat} (hn : n ≤ N) : roomB n (blocksB N L) = (freeIdx N L n).length := by
  have e : (blocksB N L).flatMap (parts n) = freeIdx N L n := by
    refine natasc_eq (flat_asc (fun x hx => ((mem_blocks hS x).1 hx).1) (blocks_asc hS)) ?_ (mem_free_parts hS hn)
    exact (List.pairwise_lt_range).filter _
  rw [← e, List.length_flatMap]
  unfold roomB
  congr 1
  refine List.map_congr_left fun x _ => ?_
  rw [parts_len]

theorem room_big {N : Nat} {L : List Blk} (hS : St N L) {n : Nat} (hn : N < n) : roomB n (blocksB N L) = 0 ∧ allocB N L n = none := by
  have hlow : ∀ x ∈ blocksB N L, ¬ n ≤ x.2 := fun x hx => by have := ((mem_blocks hS x).1 hx).lt.2; omega
  constructor
  · unfold roomB
    have : (blocksB N L).map (fun x => if n ≤ x.2 then 2 ^ (x.2 - n) else 0) = (blocksB N L).map (fun _ => 0) := List.map_congr_left fun x hx => if_neg (hlow x hx)
    rw [this]
    generalize blocksB N L = B
    induction B with
    | nil => rfl
    | cons x B ih => simpa using ih
  · have hb := alloc_best hS n
    unfold allocB
    cases e : bestOf n none (blocksB N L) with
    | none => rfl
    | some x => rw [e] at hb; exact absurd hb.2.1 (hlow x hb.1)

theorem freeB_put {N : Nat} {L : List Blk} (hS : St N L) {x : Blk} (hx : InB N x) (hf : Free (LG L) x.2 (x.1 / 2 ^ x.2)) (i : Nat) :
    freeB (putB L x) (i * 2 ^ x.2) x.2 = (freeB L (i * 2 ^ x.2) x.2 && decide (i ≠ x.1 / 2 ^ x.2)) := by
  have hS' := hS.put hx hf
  have hal : i * 2 ^ x.2 % 2 ^ x.2 = 0 := Nat.mul_mod_left _ _
  have h1 := freeB_iff hS'.inb hal
  have h2 := freeB_iff hS.inb hal
  rw [first] at h1 h2
  rw [LG_put hx.2.1, free_add] at h1
  rw [Bool.eq_iff_iff, h1, Bool.and_eq_true, h2, decide_eq_true_eq]
  constructor
  · rintro ⟨a, b⟩
    refine ⟨a, fun e => ?_⟩
    exact b (i * 2 ^ x.2) (first _ _) (by rw [first]; exact e)
  · rintro ⟨a, b⟩
    exact ⟨a, fun y hy e => b (by rw [← hy, e])⟩

theorem filter_one {p : Nat → Bool} {q : Nat} : ∀ {l : List Nat}, l.Pairwise (· < ·) → q ∈ l → p q = true → (l.filter fun i => p i && decide (i ≠ q)).length + 1 = (l.filter p).length := by
  intro l
  induction l with
  | nil => intro _ h; cases h
  | cons x l ih =>
    intro hp hq hpq
    rw [List.pairwise_cons] at hp
    by_cases e : x = q
    · subst e
      rw [List.filter_cons_of_neg (by simp), List.filter_cons_of_pos hpq, List.length_cons]
      congr 1
      congr 1
      refine List.filter_congr fun y hy => ?_
      have := hp.1 y hy
      rw [decide_eq_true (by omega), Bool.and_true]
    · have hq' : q ∈ l := (List.mem_cons.1 hq).resolve_left (fun h => e h.symm)
      have := ih hp.2 hq' hpq
      cases hx : p x with
      | true => rw [List.filter_cons_of_pos (by simp [hx, e]), List.filter_cons_of_pos hx, List.length_cons, List.length_cons, ← this]
      | false => rw [List.filter_cons_of_neg (by simp [hx]), List.filter_cons_of_neg (by simp [hx])]; exact this

/-- A block is given just if there is room, and there is room for one less. -/
theorem room_step {N : Nat} {L : List Blk} (hS : St N L) (n : Nat) : match allocB N L n with
    | none => roomB n (blocksB N L) = 0
    | some (_, L') => roomB n (blocksB N L') + 1 = roomB n (blocksB N L) := by
  have hb := alloc_best hS n
  by_cases hn : n ≤ N
  · cases e : bestOf n none (blocksB N L) with
    | none =>
      have : allocB N L n = none := by unfold allocB; rw [e]; rfl
      rw [this]
      rw [e] at hb
      show roomB n (blocksB N L) = 0
      unfold roomB
      have : (blocksB N L).map (fun x => if n ≤ x.2 then 2 ^ (x.2 - n) else 0) = (blocksB N L).map (fun _ => 0) := List.map_congr_left fun x hx => if_neg (by have := hb x hx; omega)
      rw [this]
      generalize blocksB N L = B
      induction B with
      | nil => rfl
      | cons x B ih => simpa using ih
    | some x =>
      have : allocB N L n = some (x.1, putB L (x.1, n)) := by unfold allocB; rw [e]; rfl
      rw [this]
      rw [e] at hb
      obtain ⟨g1, g2⟩ := ((mem_blocks hS x).1 hb.1).sub hb.2.1
      show roomB n (blocksB N (putB L (x.1, n))) + 1 = roomB n (blocksB N L)
      rw [room_count (hS.put g1 g2) hn, room_count hS hn]
      unfold freeIdx
      have hfe : (fun i => freeB (putB L (x.1, n)) (i * 2 ^ n) n) = fun i => (fun i => freeB L (i * 2 ^ n) n) i && decide (i ≠ x.1 / 2 ^ n) := by
        funext i; exact freeB_put hS g1 g2 i
      rw [hfe]
      refine filter_one List.pairwise_lt_range (List.mem_range.2 ?_) ?_
      · rw [Nat.div_lt_iff_lt_mul (pow_pos2 n), ← Nat.pow_add, Nat.sub_add_cancel hn]
        have := g1.2.2
        have := pow_pos2 n
        show x.1 < 2 ^ N
        have : x.1 + 2 ^ n ≤ 2 ^ N := g1.2.2
        omega
      · have hm : x.1 % 2 ^ n = 0 := g1.2.1
        show freeB L (x.1 / 2 ^ n * 2 ^ n) n = true
        rw [mul_div hm]
        exact (freeB_iff hS.inb hm).2 g2
  · obtain ⟨h1, h2⟩ := room_big hS (Nat.lt_of_not_le hn)
    rw [h2]; exact h1
end Bu
end Go.Proofs.Ytdanhbbdkcbapaa
namespace Go.Proofs.Ytdanhbbdkcbapaa
open Go.RowKit
namespace Bu

/-- A valid state that came in: blocks after all. -/
theorem checked {w : World} {N : Int} {L : List (Int × Int)} {e : Ending} {w' : World} (h : LoadL w N L e w') (h0 : checkV N L = 0) :
    ∃ (b M : Nat) (B : List Blk), N = (M : Int) ∧ L = B.map zb ∧ e = .returned (.tuple #[.pointer (some ⟨b, 0, none⟩), .int .i64 0]) ∧ BuL w' b M B ∧ w.heap.size ≤ b ∧ Below w.heap.size w w' := by
  rcases h.2 with ⟨h1, _⟩ | ⟨_, b, M, B, h1, h2, h3, h4, h5⟩
  · exact absurd h0 h1
  · exact ⟨b, M, B, h1, h2, h3, h4, h5, h.1⟩

theorem grow_step {n b : Nat} {a c d : World} (h : Below n a c) (hg : Grow1 b c d) (hn : n ≤ b) (hb : b < c.heap.size) : Below n a d :=
  h.trans ⟨hg.os, hg.tape, hg.output, hg.size, fun k hk => hg.block k (by omega) (by omega)⟩

theorem room_le {N : Nat} {L : List Blk} (h : St N L) (n : Nat) : roomB n (blocksB N L) ≤ 1024 := by
  by_cases hn : n ≤ N
  · rw [room_count h hn]
    refine Nat.le_trans (List.length_filter_le _ _) ?_
    rw [List.length_range]
    exact Nat.le_trans (Nat.pow_le_pow_right (by decide) (Nat.sub_le _ _)) (two_le h.n10)
  · rw [(room_big h (Nat.lt_of_not_le hn)).1]; omega

theorem room_zero {w : World} {b N n : Nat} {L : List Blk} (h : BuL w b N L) (hn : n ≤ 10) (hz : roomB n (blocksB N L) = 0) :
    Calls Try.prog 18 #[.pointer (some ⟨b, 0, none⟩), .int .i64 (n : Int)] w fun e w' => e = .returned (.tuple #[.int .i64 0, .int .i64 0]) ∧ Below w.heap.size w w' := by
  have := roomL_ok w b N L n h hn
  rw [hz] at this
  exact this

set_option maxRecDepth 100000 in
set_option maxHeartbeats 4000000 in
theorem roomlaw_walk (w : World) (N : Int) (A : Option Addr) (c : Nat) (L : List (Int × Int)) (order : Int) (h : ZAt w A c L) :
    Calls Try.prog 4 #[sv N A L.length c, .int .i64 order] w fun e w' => e = .returned (.bool true) ∧ Below w.heap.size w w' := by
  have hg1 := blk_new w (.int .i64 N) (.slice A L.length c) 24
  have hb0 := below_box w (.cells #[.int .i64 N, .slice A L.length c] 24)
  obtain ⟨W1, hW1⟩ : ∃ W1, W1 = w.alloc (.cells #[.int .i64 N, .slice A L.length c] 24) := ⟨_, rfl⟩
  rw [← hW1] at hg1 hb0
  have hs1 : W1.heap.size = w.heap.size + 1 := by rw [hW1]; simp
  have hz := two_cells hg1
  obtain ⟨b1, b2, _, _⟩ := hz
  have hC := check_ok W1 N A c L (h.below hb0)
  have HX := Lib.hid (And.intro (h.below hb0) (And.intro hb0 hs1))
  have HW := Lib.hid hW1
  clear h hb0 hs1 hg1 hW1
  obtain ⟨r, hr⟩ : ∃ r, r = checkV N L := ⟨_, rfl⟩
  rw [← hr] at hC
  have HC := Lib.hid hC
  clear hC
  by_cases hgo : r = 0 ∧ 0 ≤ order ∧ order ≤ 10
  · obtain ⟨h0, ho1, ho2⟩ := hgo
    obtain ⟨n, rfl⟩ := Int.eq_ofNat_of_zero_le ho1
    have hn : n ≤ 10 := by omega
    subst h0
    have HR := Lib.hid hr.symm
    have t1 : ¬ (n : Int) < 0 := by omega
    have t2 : ¬ (n : Int) > 10 := by omega
    clear hr ho1 ho2
    go_enter Try.func4, Try.ntmps4
    go_wp2_with (fail)
    rw [← HW.out]
    go_wp2_with (go_at_call 10; refine HC.out.mono ?_; rintro e w2 ⟨rfl, hb⟩; have c1 := cell_keep2 hb b1; have c2 := cell_keep2 hb b2; have H2 := Lib.hid (And.intro (HX.out.1.below hb) (below_step HX.out.2.1 hb (Nat.le_refl _))); clear hb)
    refine (load_ok w2 N A c L H2.out.1).mono ?_
    intro e w3 hL
    obtain ⟨b, M, B, hN, hLB, rfl, hB, hbw, hb3⟩ := checked hL HR.out
    have hst := hB.2
    have hr1 := room_le hst n
    have H3 := Lib.hid (And.intro hB (And.intro (below_step H2.out.2 hb3 (Nat.le_refl _)) (Nat.le_trans H2.out.2.size hbw)))
    obtain ⟨rm, hrm⟩ : ∃ rm, rm = roomB n (blocksB M B) := ⟨_, rfl⟩
    have hRoom := roomL_ok w3 b M B n hB hn
    rw [← hrm] at hRoom hr1
    have HRoom := Lib.hid hRoom
    have HM := Lib.hid hrm
    have t3 : ¬ (rm : Int) < 0 := by omega
    have t4 : ¬ (rm : Int) > 1024 := by omega
    clear hL hN hLB hB hbw hb3 hst hRoom hrm
    go_wp2_with (go_at_call 18; refine HRoom.out.mono ?_; rintro e w4 ⟨rfl, hb⟩; have H4 := Lib.hid (And.intro (H3.out.1.keep (hb.block _ H3.out.1.lt)) (below_step H3.out.2.1 hb (Nat.le_refl _))); clear hb)
    go_loopw [9] (fun i wr => ∃ (k : Nat) (B' : List Blk), k ≤ rm ∧ i = .int .i64 (k : Int) ∧ BuL wr b M B' ∧ Below w.heap.size w wr ∧ roomB n (blocksB M B') + k = rm) (fun i _ => rm - (intOf i).toNat)
    case atStart => exact ⟨0, B, Nat.zero_le _, rfl, H4.out.1, H4.out.2, HM.out.symm⟩
    case round =>
      obtain ⟨k, B', hk, rfl, hB', hbw', hrk⟩ := hrel
      have hstep := room_step hB'.2 n
      have hbl := hB'.lt
      by_cases hlt : k < rm
      · have t5 : (k : Int) < (rm : Int) := by omega
        have hkk : IntKind.i64.wrap ((k : Int) + 1) = ((k + 1 : Nat) : Int) := by rw [IntWalk.i64_in _ (by omega)]; rfl
        cases ha : allocB M B' n with
        | none => rw [ha] at hstep; have hstep : roomB n (blocksB M B') = 0 := hstep; omega
        | some pl =>
          obtain ⟨p, L'⟩ := pl
          rw [ha] at hstep
          have hstep : roomB n (blocksB M L') + 1 = roomB n (blocksB M B') := hstep
          have HA := Lib.hid (And.intro (al_some hB' hn ha) (And.intro hbw' (And.intro (show roomB n (blocksB M L') + (k + 1) = rm by omega) hbl)))
          clear hB' hbw' hrk hstep ha
          go_wp2_with (go_at_call 14; refine HA.out.1.mono ?_; rintro e w5 ⟨rfl, hB5, hg⟩; have H5 := Lib.hid (And.intro hB5 (grow_step HA.out.2.1 hg H3.out.2.2 HA.out.2.2.2)); clear hB5 hg)
          go_roundw
          case rel => exact ⟨k + 1, L', by omega, by go_num, H5.out.1, H5.out.2, HA.out.2.2.1⟩
          case measure => simp [intOf]; omega
      · obtain rfl : k = rm := by omega
        have hz : roomB n (blocksB M B') = 0 := by omega
        have hno : allocB M B' n = none := by
          cases ha : allocB M B' n with
          | none => rfl
          | some pl => rw [ha] at hstep; obtain ⟨p, L'⟩ := pl; have hstep : roomB n (blocksB M L') + 1 = roomB n (blocksB M B') := hstep; omega
        have HA := Lib.hid (And.intro (al_none hB' hn hno) (And.intro hbw' (And.intro hz hbl)))
        have t5 : ¬ (k : Int) < (k : Int) := by omega
        clear hB' hbw' hrk hstep hz hno HRoom
        go_wp2_with (first | (go_at_call 14; refine HA.out.1.mono ?_; rintro e w5 ⟨rfl, hB5, hg⟩; have H5 := Lib.hid (And.intro hB5 (grow_step HA.out.2.1 hg H3.out.2.2 HA.out.2.2.2)); clear hB5 hg) | (go_at_call 18; refine (room_zero H5.out.1 hn HA.out.2.2.1).mono ?_; rintro e w6 ⟨rfl, hb⟩; have H6 := Lib.hid (below_step H5.out.2 hb (Nat.le_refl _)); clear hb) | (go_at_call 11; refine (shown_ok _).mono ?_; rintro e w7 ⟨rfl, hb⟩; have H7 := Lib.hid (below_step H6.out hb (Nat.le_refl _)); clear hb))
        go_ret
        exact ⟨rfl, H7.out⟩
  · by_cases h0 : r = 0
    · subst h0
      have ho : order < 0 ∨ (0 ≤ order ∧ order > 10) := by omega
      clear hgo hr
      rcases ho with t1 | ⟨t1, t2⟩
      · go_enter Try.func4, Try.ntmps4
        go_wp2_with (fail)
        rw [← HW.out]
        go_wp2_with (first | (go_at_call 10; refine HC.out.mono ?_; rintro e w2 ⟨rfl, hb⟩; have H2 := Lib.hid (below_step HX.out.2.1 hb (Nat.le_refl _)); clear hb) | (go_at_call 11; refine (shown_ok _).mono ?_; rintro e w7 ⟨rfl, hb⟩; have H7 := Lib.hid (below_step H2.out hb (Nat.le_refl _)); clear hb))
        go_ret
        exact ⟨rfl, H7.out⟩
      · have t3 : ¬ order < 0 := by omega
        go_enter Try.func4, Try.ntmps4
        go_wp2_with (fail)
        rw [← HW.out]
        go_wp2_with (first | (go_at_call 10; refine HC.out.mono ?_; rintro e w2 ⟨rfl, hb⟩; have H2 := Lib.hid (below_step HX.out.2.1 hb (Nat.le_refl _)); clear hb) | (go_at_call 11; refine (shown_ok _).mono ?_; rintro e w7 ⟨rfl, hb⟩; have H7 := Lib.hid (below_step H2.out hb (Nat.le_refl _)); clear hb))
        go_ret
        exact ⟨rfl, H7.out⟩
    · have t0 : (r == 0) = false := by rw [beq_eq_false_iff_ne]; exact h0
      clear hgo hr
      go_enter Try.func4, Try.ntmps4
      go_wp2_with (fail)
      rw [← HW.out]
      go_wp2_with (first | (go_at_call 10; refine HC.out.mono ?_; rintro e w2 ⟨rfl, hb⟩; have H2 := Lib.hid (below_step HX.out.2.1 hb (Nat.le_refl _)); clear hb) | (go_at_call 11; refine (shown_ok _).mono ?_; rintro e w7 ⟨rfl, hb⟩; have H7 := Lib.hid (below_step H2.out hb (Nat.le_refl _)); clear hb))
      go_ret
      exact ⟨rfl, H7.out⟩
end Bu
end Go.Proofs.Ytdanhbbdkcbapaa
namespace Go.Proofs.Ytdanhbbdkcbapaa
namespace Bu
open Go.ChangeShapes Go.WideShapes Go.ChangeAt Go.RowKit Go.Deep Go.Joins
section
variable {H : Type} {enc : TypeId × Value → H} {P : Program} {w : World} {base : Nat} {spare : Nat → Bool} {held : Bool}
theorem open_slice_fields {t e : TypeId} {fs : Array Field} {fuel : Nat} {cs : List Value} {x : DataW H × List MemPlace} (ht : P.underlying t = some (.slice e)) (he : P.underlying e = some (.struct fs))
    (hone : oneCellFields P fs = true) (hC : P.cellsOf e = fs.size) (h : DataW.trod enc P w base spare held fuel t cs = some x) :
    (cs = [.slice none 0 0] ∧ x = (.nil, [])) ∨
    ∃ (a : Addr) (len cap m : Nat) (D : Nat → DataW H) (Pl : Nat → List MemPlace), cs = [.slice (some a) len cap] ∧ base ≤ a.block ∧ len ≤ cap ∧ cap ≤ maxLen ∧ m = (if spare a.block then cap else len) ∧
      x = (.slice ((List.range len).map D) ((List.range (m - len)).map fun j => D (len + j)), MemPlace.row a (m * fs.size) ++ (List.range m).flatMap Pl) ∧
      ∀ i, i < m → ∃ (ys : List (DataW H × List MemPlace)) (n : Nat), D i = .agg (ys.map (·.1)) ∧ Pl i = ys.flatMap (·.2) ∧ ys.length = fs.size ∧
        ∀ (j : Nat) (f : Field), fs[j]? = some f → ∃ (v : Value) (y : DataW H × List MemPlace), w.cell? (a.add (i * fs.size + j)) = some v ∧ ys[j]? = some y ∧ DataW.trod enc P w base spare held n f.type [v] = some y := by
  rcases open_slice ht h with h0 | ⟨a, len, cap, m, n, D, Pl, hcs, hb, hl, hm, hmm, hx, hi⟩
  · exact .inl h0
  · refine .inr ⟨a, len, cap, m, D, Pl, hcs, hb, hl, hm, hmm, by rw [hC] at hx; exact hx, fun i him => ?_⟩
    obtain ⟨cs', hc, ht'⟩ := hi i him
    rw [hC] at hc
    obtain ⟨ys, n', hn', hy, hlen, hyl, hf⟩ := DataW.trod_struct he ht'
    obtain ⟨_, hcl, hat⟩ := World.cells?_some hc
    simp only [Prod.mk.injEq] at hy
    refine ⟨ys, n', hy.1, hy.2, hyl, fun j f hj => ?_⟩
    obtain ⟨ho, hk⟩ := hone_of hone j f hj
    have hjl : j < fs.size := (Array.getElem?_eq_some_iff.1 hj).1
    have hcell := hat j hjl
    have hv : cs'[j]? = some (cs'[j]'(by omega)) := List.getElem?_eq_getElem (by omega)
    have h1 := hf j f hj
    rw [ho, hk] at h1
    have hone' : (cs'.drop j).take 1 = [cs'[j]'(by omega)] := by
      rw [List.drop_eq_getElem_cons (by omega)]
      rfl
    rw [hone'] at h1
    have hys : ys[j]? = some (ys[j]'(by omega)) := List.getElem?_eq_getElem (by omega)
    refine ⟨_, _, ?_, hys, h1.trans hys⟩
    rw [← Go.Deep.add_add, hcell, hv]
end
section
variable {H : Type} {enc : TypeId × Value → H} {P : Program} {w : World} {base : Nat} {spare : Nat → Bool} {held : Bool}
theorem open_agg2f {r : Reach} {b0 : Nat} {t : TypeId} {f0 f1 : Field} {v : Value} {d : DataW H} {p : List MemPlace} (hs : P.underlying t = some (.struct #[f0, f1])) (hone : oneCellFields P #[f0, f1] = true) (hC : P.cellsOf t = 2)
    (hv : Value.okWide P w r b0 t v) (h : DataW.Trod enc P w base spare held t v d p) :
    ∃ (v0 v1 : Value) (y0 y1 : DataW H × List MemPlace) (n : Nat), v = .agg #[v0, v1] ∧ DataW.trod enc P w base spare held n f0.type [v0] = some y0 ∧ DataW.trod enc P w base spare held n f1.type [v1] = some y1 := by
  obtain ⟨cs, rfl, hsz⟩ := okWide_struct hs hv
  obtain ⟨l⟩ := cs
  match l, hsz.trans hC with
  | [c0, c1], _ =>
    obtain ⟨fuel, hf⟩ := h
    obtain ⟨xs, n, _, hx, _, hlen, hg⟩ := DataW.trod_struct hs hf
    obtain ⟨o0, k0⟩ := hone_of hone 0 f0 rfl
    obtain ⟨o1, k1⟩ := hone_of hone 1 f1 rfl
    match xs, hlen with
    | [y0, y1], _ =>
      exact ⟨c0, c1, y0, y1, n, rfl, by simpa [Value.cells, o0, k0] using hg 0 f0 rfl, by simpa [Value.cells, o1, k1] using hg 1 f1 rfl⟩
end

theorem list_of {α : Type} (P : Nat → α → Prop) : ∀ len : Nat, (∀ j : Nat, j < len → ∃ x, P j x) → ∃ l : List α, l.length = len ∧ ∀ (j : Nat) (x : α), l[j]? = some x → P j x := by
  intro len
  induction len with
  | zero => exact fun _ => ⟨[], rfl, fun j x hx => by simp at hx⟩
  | succ n ih =>
    intro h
    obtain ⟨l, hl, hp⟩ := ih (fun j hj => h j (by omega))
    obtain ⟨x, hx⟩ := h n (by omega)
    refine ⟨l ++ [x], by simp [hl], fun j y hy => ?_⟩
    rcases Nat.lt_or_ge j n with hj | hj
    · exact hp j y (by rwa [List.getElem?_append_left (by omega)] at hy)
    · rw [List.getElem?_append_right (by omega)] at hy
      have : j = n := by
        have := (List.getElem?_eq_some_iff.1 hy).1
        simp at this; omega
      subst this
      rw [hl, Nat.sub_self] at hy
      obtain rfl : x = y := by simpa using hy
      exact hx

theorem add_plain (g o n : Nat) : (⟨g, o, none⟩ : Addr).add n = ⟨g, o + n, none⟩ := by
  unfold Addr.add
  split
  · next h => rw [h]; rfl
  · rfl

section
variable {H : Type} {enc : TypeId × Value → H} {W : World} {v : Value} {d : DataW H} {p : List MemPlace}

set_option maxRecDepth 100000 in
theorem open_blocks {fuel : Nat} {cs : List Value} {x : DataW H × List MemPlace} (hf : DataW.trod enc Try.prog W 0 (fun _ => true) true fuel 22 cs = some x) :
    ∃ (A : Option Addr) (c : Nat) (l : List (Int × Int)), cs = [.slice A l.length c] ∧ ZAt W A c l := by
  rcases open_slice_fields Try.underlying22 Try.underlying39 (by kernel_rfl) (by kernel_rfl) hf with ⟨hcs, _⟩ | ⟨a, len, cap, m, D, Pl, hcs, _, hl, hm, hmm, _, hi⟩
  · exact ⟨none, 0, [], hcs, Nat.le_refl _, Nat.zero_le _, fun j x hx => by simp at hx⟩
  · have hlm : len ≤ m := by rw [hmm]; split <;> omega
    have hspot : 0 < len → a.spot = none := by
      intro h0
      obtain ⟨ys, n, _, _, _, hfl⟩ := hi 0 (by omega)
      obtain ⟨v0, y0, c0, _, t0⟩ := hfl 0 _ rfl
      have := World.cell?_spot c0
      rwa [Nat.zero_mul, Addr.add, if_pos rfl] at this
    have key : ∀ j : Nat, j < len → ∃ x : Int × Int, ∃ g o, some a = some ⟨g, o, none⟩ ∧ g < W.heap.size ∧ W.cell? ⟨g, o + j * 2, none⟩ = some (.int .i64 x.1) ∧ W.cell? ⟨g, o + j * 2 + 1, none⟩ = some (.int .i64 x.2) := by
      intro j hj
      obtain ⟨ys, n, _, _, _, hfl⟩ := hi j (by omega)
      obtain ⟨v0, y0, c0, _, t0⟩ := hfl 0 _ rfl
      obtain ⟨v1, y1, c1, _, t1⟩ := hfl 1 _ rfl
      obtain ⟨n0, e0, _, _⟩ := DataW.trod_int Try.underlying3 t0
      obtain ⟨n1, e1, _, _⟩ := DataW.trod_int Try.underlying3 t1
      simp only [List.cons.injEq, and_true] at e0 e1
      subst e0 e1
      obtain ⟨g, o, spot⟩ := a
      obtain rfl : spot = none := hspot (by omega)
      rw [add_plain] at c0 c1
      have hg : g < W.heap.size := World.block_lt_of_cell? _ (a := ⟨g, _, none⟩) c0
      exact ⟨(n0, n1), g, o, rfl, hg, by simpa [Nat.add_assoc] using c0, by simpa [Nat.add_assoc] using c1⟩
    obtain ⟨l, rfl, hp⟩ := list_of _ len key
    exact ⟨some a, cap, l, hcs, hl, hm, hp⟩

set_option maxRecDepth 100000 in
theorem open_state {r : Reach} {b0 : Nat} (hv : Value.okWide Try.prog W r b0 24 v) (h : DataW.Trod enc Try.prog W 0 (fun _ => true) true 24 v d p) :
    ∃ (N : Int) (A : Option Addr) (c : Nat) (l : List (Int × Int)), v = sv N A l.length c ∧ ZAt W A c l := by
  obtain ⟨v0, v1, y0, y1, n, rfl, t0, t1⟩ := open_agg2f Try.underlying24 (by kernel_rfl) (by kernel_rfl) hv h
  obtain ⟨N, e0, _, _⟩ := DataW.trod_int Try.underlying3 t0
  obtain ⟨A, c, l, e1, hl⟩ := open_blocks t1
  simp only [List.cons.injEq, and_true] at e0 e1
  subst e0 e1
  exact ⟨N, A, c, l, rfl, hl⟩
end
end Bu
end Go.Proofs.Ytdanhbbdkcbapaa
