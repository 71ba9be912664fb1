/- The walk of BuddyRoom. The walk of BuddyExactly. Slices of blocks that are appended to a slice of the call's own; rows of integers that are written in place. Calls of both: the program's and the specification's, with whatever arguments. -/
import Derived.Test.YtlknhbcambdccaaK13
import Derived.Test.YtlknhbcambdccaaK0
import Derived.Deep.QuietTactic
import Derived.BigQuiet
import Derived.Test.YtlknhbcambdccaaK1
import Derived.Deep.AppendLies
import Derived.Laws.AppendOwn
import Derived.Laws.AppendOwnNone
import Derived.Laws.MakeOwn
import Derived.OwnWalk
namespace Go.Proofs.Ytlknhbcambdccaa
open Go.RowKit
namespace Bu

/-- A valid state that came in: blocks after all. -/
theorem checked {w : World} {N : Int} {L : List (Int × Int)} {e : Ending} {w' : World} (h : LoadL w N L e w') (h0 : checkV N L = 0) :
    ∃ (b M : Nat) (B : List Blk), N = (M : Int) ∧ L = B.map zb ∧ e = .returned (.tuple #[.pointer (some ⟨b, 0, none⟩), .int .i64 0]) ∧ BuL w' b M B ∧ w.heap.size ≤ b ∧ Below w.heap.size w w' := by
  rcases h.2 with ⟨h1, _⟩ | ⟨_, b, M, B, h1, h2, h3, h4, h5⟩
  · exact absurd h0 h1
  · exact ⟨b, M, B, h1, h2, h3, h4, h5, h.1⟩

theorem grow_step {n b : Nat} {a c d : World} (h : Below n a c) (hg : Grow1 b c d) (hn : n ≤ b) (hb : b < c.heap.size) : Below n a d :=
  h.trans ⟨hg.os, hg.tape, hg.output, hg.size, fun k hk => hg.block k (by omega) (by omega)⟩

theorem room_le {N : Nat} {L : List Blk} (h : St N L) (n : Nat) : roomB n (blocksB N L) ≤ 1024 := by
  by_cases hn : n ≤ N
  · rw [room_count h hn]
    refine Nat.le_trans (List.length_filter_le _ _) ?_
    rw [List.length_range]
    exact Nat.le_trans (Nat.pow_le_pow_right (by decide) (Nat.sub_le _ _)) (two_le h.n10)
  · rw [(room_big h (Nat.lt_of_not_le hn)).1]; omega

theorem room_zero {w : World} {b N n : Nat} {L : List Blk} (h : BuL w b N L) (hn : n ≤ 10) (hz : roomB n (blocksB N L) = 0) :
    Calls Try.prog 51 #[.pointer (some ⟨b, 0, none⟩), .int .i64 (n : Int)] w fun e w' => e = .returned (.tuple #[.int .i64 0, .int .i64 0]) ∧ Below w.heap.size w w' := by
  have := roomL_ok w b N L n h hn
  rw [hz] at this
  exact this

end Bu
end Go.Proofs.Ytlknhbcambdccaa
namespace Go.Proofs.Ytlknhbcambdccaa
open Go.RowKit
namespace Bu

theorem cell_grow {b : Nat} {w1 w2 : World} (hg : Grow1 b w1 w2) {g o : Nat} {v : Value} (hne : g ≠ b) (h : w1.cell? ⟨g, o, none⟩ = some v) : w2.cell? ⟨g, o, none⟩ = some v :=
  (World.cell?_of_block (a := ⟨g, o, none⟩) (hg.block g (World.block_lt_of_cell? w1 _ h) hne)).trans h
theorem BlkAt.grow {w w' : World} {b c : Nat} {A : Option Addr} {L : List Blk} (h : BlkAt w A c L) (hg : Grow1 b w w') (hne : A.map (·.block) ≠ some b) : BlkAt w' A c L :=
  h.keep hg.size fun g e hlt => hg.block g hlt fun e2 => hne (by rw [e, e2])

end Bu
end Go.Proofs.Ytlknhbcambdccaa
namespace Go.Proofs.Ytlknhbcambdccaa
open Go.RowKit
namespace Bu

theorem blk_addr {w : World} {ad : Addr} {c : Nat} {L : List Blk} (h : BlkAt w (some ad) c L) : ∀ (j : Nat) (u : Value), (cellsL L)[j]? = some u → w.cell? (ad.add j) = some u := by
  intro j u hu
  have hj := (List.getElem?_eq_some_iff.1 hu).1
  rw [cellsL_len] at hj
  obtain ⟨x, hx⟩ : ∃ x, L[j / 2]? = some x := ⟨_, List.getElem?_eq_getElem (by omega)⟩
  obtain ⟨g, o, hA, hg, d1, d2⟩ := h.at hx
  obtain ⟨e1, e2⟩ := cellsL_get L (j / 2) x hx
  injection hA with hA
  subst hA
  rw [add_plain]
  rcases Nat.mod_two_eq_zero_or_one j with hm | hm
  · have hjj : j / 2 * 2 = j := by omega
    rw [hjj] at e1 d1
    rw [e1] at hu
    injection hu with hu
    rw [← hu]; exact d1
  · have hjj : j / 2 * 2 + 1 = j := by omega
    have hoj : o + j / 2 * 2 + 1 = o + j := by omega
    rw [hjj] at e2
    rw [hoj] at d2
    rw [e2] at hu
    injection hu with hu
    rw [← hu]; exact d2

theorem grown_refl (w : World) (row : Option Nat) : w.grownBy w row := ⟨rfl, rfl, rfl, Nat.le_refl _, fun _ _ _ => rfl⟩

set_option maxRecDepth 100000 in
theorem wpList_append_blk {w : World} {ops : Array Oper} {rest : List Oper} {o : Oper} {a : Act} {Q : Exit → Act → World → Prop} (hgd : o.guard = none) (s x : Operand)
    (ho : o.op = .call { callee := .builtin .append, args := #[s, x], argTypes := #[44, 44] })
    (base : Nat) (v : Value) (X : List Blk) (hs : a.eval s = v) (hown : w.ownsRow base 126 2 v X.length (cellsL X))
    (A : Option Addr) (c : Nat) (M : List Blk) (hx : a.eval x = .slice A M.length c) (hM : BlkAt w A c M) (hn : A = none → c = 0) (hlen : X.length + M.length ≤ 100000) (hbase : base ≤ w.heap.size)
    (h : ∀ A' c' w', w'.ownsRow base 126 2 (.slice A' (X ++ M).length c') (X ++ M).length (cellsL (X ++ M)) → w.grownBy w' v.ownBlock → wpList Try.prog ops Q rest (a.put o.dst (.slice A' (X ++ M).length c')) w') : wpList Try.prog ops Q (o :: rest) a w := by
  obtain ⟨i0, z0, hi0, hz0, hz1, hz2, hz3⟩ := info_open block_info
  have hcl : cellsL (X ++ M) = cellsL X ++ cellsL M := by simp [cellsL]
  cases A with
  | none =>
    obtain rfl := hn rfl
    have hM0 : M = [] := by
      have := hM.len.1
      exact List.length_eq_zero_iff.1 (by omega)
    subst hM0
    refine wpList_append_own_none hgd s x 44 ho base 126 i0 2 Try.underlying44 hi0 v X.length (cellsL X) hs hown hx ?_
    obtain ⟨A', c', rfl⟩ := own_value hown
    have := h A' c' w (by rw [List.append_nil]; exact hown) (grown_refl _ _)
    rw [List.append_nil] at this
    exact this
  | some ad =>
    refine wpList_append_own w hgd s x 44 ho base 126 i0 z0 2 16 Try.underlying44 hi0 hz0 hz1 hz2 hz3 (by omega) v X.length (cellsL X) hs hown ad M.length c (cellsL M) hx (cellsL_len M) (blk_addr hM) (cellsL_one M) (by unfold maxLen; omega) (by omega) hbase ?_
    intro v' w' hown' hgrow _
    rw [← List.length_append, ← hcl] at hown'
    obtain ⟨A', c', rfl⟩ := own_value hown'
    exact h A' c' w' hown' hgrow

theorem own_nc {w : World} {B c : Nat} {A : Option Addr} {L : List Blk} (h : Own w B A c L) : A = none → c = 0 := by
  rintro rfl
  rcases h.2 with ⟨hn, _⟩ | ⟨g, cap, cur, hv, _⟩
  · injection hn
  · injection hv with h1; cases h1
theorem row_empty (w : World) (b : Nat) (h : b ≤ w.heap.size) : (w.alloc (.cells #[] 126)).ownsRow b 126 2 (.slice (some ⟨w.heap.size, 0, none⟩) 0 0) 0 (cellsL []) :=
  ⟨rfl, .inr ⟨w.heap.size, 0, #[], rfl, h, by rw [heapAlloc, if_pos rfl], Nat.le_refl _, Nat.zero_le _, rfl, rfl⟩⟩
theorem row_blk {w : World} {b c : Nat} {A : Option Addr} {L : List Blk} (h : w.ownsRow b 126 2 (.slice A L.length c) L.length (cellsL L)) : Own w b A c L := h
theorem row_ne {w : World} {b c : Nat} {A : Option Addr} {L : List Blk} (h : Own w b A c L) {g : Nat} (hg : g < b) : A.map (·.block) ≠ some g := fun e => by have := (h.at.2 g e).1; omega

/-! Rows of integers. -/
def IntsAt (w : World) (g N : Nat) (f : Nat → Int) : Prop := ∃ cs, w.heap[g]? = some (.cells cs 3 (0, 0)) ∧ cs.size = N ∧ ∀ p, p < N → cs[p]? = some (.int .i64 (f p))

theorem IntsAt.cell {w : World} {g N : Nat} {f : Nat → Int} (h : IntsAt w g N f) {p : Nat} (hp : p < N) : w.cell? ⟨g, p, none⟩ = some (.int .i64 (f p)) := by
  obtain ⟨cs, h1, h2, h3⟩ := h
  simp [World.cell?, h1, h3 p hp]
theorem IntsAt.frozen {w : World} {g N : Nat} {f : Nat → Int} (h : IntsAt w g N f) (p : Nat) : w.frozen? ⟨g, p, none⟩ = false := by
  obtain ⟨cs, h1, h2, h3⟩ := h
  simp [World.frozen?, h1]
theorem IntsAt.lt {w : World} {g N : Nat} {f : Nat → Int} (h : IntsAt w g N f) : g < w.heap.size := by
  obtain ⟨cs, h1, _⟩ := h
  exact lt_of_heap h1
theorem IntsAt.keep {w w' : World} {g N : Nat} {f : Nat → Int} (h : IntsAt w g N f) (hk : w'.heap[g]? = w.heap[g]?) : IntsAt w' g N f := by
  obtain ⟨cs, h1, h2⟩ := h
  exact ⟨cs, hk.trans h1, h2⟩
theorem IntsAt.set {w : World} {g N : Nat} {f f' : Nat → Int} (h : IntsAt w g N f) {p : Nat} {v : Int} (hp : p < N) (h1 : f' p = v) (h2 : ∀ q, q ≠ p → f' q = f q) : IntsAt (w.setCell ⟨g, p, none⟩ (.int .i64 v)) g N f' := by
  obtain ⟨cs, a1, a2, a3⟩ := h
  refine ⟨cs.setIfInBounds p (.int .i64 v), setCell_at _ _ _ _ _ _ a1, by simpa using a2, fun q hq => ?_⟩
  by_cases e : q = p
  · subst e
    rw [Array.getElem?_setIfInBounds]
    simp [a2, hp, h1]
  · rw [Array.getElem?_setIfInBounds, if_neg (Ne.symm e), a3 q hq, h2 q e]
theorem IntsAt.congr {w : World} {g N : Nat} {f f' : Nat → Int} (h : IntsAt w g N f) (he : ∀ p, p < N → f' p = f p) : IntsAt w g N f' := by
  obtain ⟨cs, a1, a2, a3⟩ := h
  exact ⟨cs, a1, a2, fun p hp => by rw [a3 p hp, he p hp]⟩

theorem int_row : (Try.prog.info? 3).map (fun i => (i.zero, i.size, i.bytes)) = some (some (.int .i64 0), 1, 8) := by kernel_rfl
theorem ints_new (w : World) (z : Nat) : IntsAt (w.alloc (.cells (Array.replicate z (.int .i64 0)) 3)) w.heap.size z (fun _ => 0) :=
  ⟨Array.replicate z (.int .i64 0), by rw [heapAlloc, if_pos rfl], by simp, fun p hp => by simp [hp]⟩
end Bu
end Go.Proofs.Ytlknhbcambdccaa
namespace Go.Proofs.Ytlknhbcambdccaa
open Go.RowKit
namespace Bu

/-- The slice of a state that the specification returns: the one that was, or one of its own. -/
def NewS (w w' : World) (A : Option Addr) (c : Nat) (L : List Blk) (A' : Option Addr) (c' : Nat) (L' : List Blk) : Prop := (A' = A ∧ c' = c ∧ L' = L) ∨ Own w' w.heap.size A' c' L'

def alO (N : Nat) (L : List Blk) (k : Int) : Int × Int × List Blk :=
  if 0 ≤ k ∧ k ≤ 10 then match allocB N L k.toNat with | none => (0, 5, L) | some (p, L') => ((p : Int), 0, L') else (0, 7, L)
def atO (N : Nat) (L : List Blk) (p k : Int) : Int × List Blk :=
  if inZ N p k = true then if freeB L p.toNat k.toNat = true then (0, putB L (p.toNat, k.toNat)) else (8, L) else (7, L)
def drO (N : Nat) (L : List Blk) (p k : Int) : Int × List Blk :=
  if inZ N p k = true then if (p.toNat, k.toNat) ∈ L then (0, delB L (p.toNat, k.toNat)) else (9, L) else (7, L)

theorem keep_below {w w' : World} {b N : Nat} {L : List Blk} (h : BuL w b N L) (hb : Below w.heap.size w w') : BuL w' b N L ∧ Grow1 b w w' :=
  ⟨h.keep (hb.block b h.lt), hb.os, hb.tape, hb.output, hb.size, fun k hk _ => hb.block k hk⟩

theorem al_both (w : World) (b N : Nat) (L : List Blk) (k : Int) (h : BuL w b N L) :
    Calls Try.prog 39 #[.pointer (some ⟨b, 0, none⟩), .int .i64 k] w fun e w' => e = .returned (.tuple #[.int .i64 (alO N L k).1, .int .i64 (alO N L k).2.1]) ∧ BuL w' b N (alO N L k).2.2 ∧ Grow1 b w w' := by
  by_cases hk : 0 ≤ k ∧ k ≤ 10
  · obtain ⟨n, rfl⟩ := Int.eq_ofNat_of_zero_le hk.1
    have hn : n ≤ 10 := by omega
    unfold alO
    rw [if_pos hk, Int.toNat_natCast]
    cases ha : allocB N L n with
    | none => exact al_none h hn ha
    | some pl => exact al_some h hn ha
  · unfold alO
    rw [if_neg hk]
    exact (allocL_bad w b N L k h hk).mono fun e w' ⟨he, hb⟩ => ⟨he, keep_below h hb⟩
theorem alR_both (w : World) (N : Nat) (A : Option Addr) (c : Nat) (L : List Blk) (k : Int) (h : BlkAt w A c L) (hS : St N L) :
    Calls Try.prog 81 #[sv N A L.length c, .int .i64 k] w fun e w' => ∃ A' c', e = .returned (.tuple #[sv N A' (alO N L k).2.2.length c', .int .i64 (alO N L k).1, .int .i64 (alO N L k).2.1]) ∧ NewS w w' A c L A' c' (alO N L k).2.2 ∧ Below w.heap.size w w' := by
  by_cases hk : 0 ≤ k ∧ k ≤ 10
  · obtain ⟨n, rfl⟩ := Int.eq_ofNat_of_zero_le hk.1
    have hn : n ≤ 10 := by omega
    have hr := allocR_ok w N A c L n hn h hS
    unfold alO
    rw [if_pos hk, Int.toNat_natCast]
    unfold GiveR at hr
    cases ha : allocB N L n with
    | none => rw [ha] at hr; exact hr.mono fun e w' ⟨he, hb⟩ => ⟨A, c, he, .inl ⟨rfl, rfl, rfl⟩, hb⟩
    | some pl => rw [ha] at hr; exact hr.mono fun e w' ⟨⟨A', c', he, ho⟩, hb⟩ => ⟨A', c', he, .inr ho, hb⟩
  · unfold alO
    rw [if_neg hk]
    exact (allocR_bad w N A c L.length k hk).mono fun e w' ⟨he, hb⟩ => ⟨A, c, he, .inl ⟨rfl, rfl, rfl⟩, hb⟩

theorem at_both (w : World) (b N : Nat) (L : List Blk) (p k : Int) (h : BuL w b N L) :
    Calls Try.prog 66 #[.pointer (some ⟨b, 0, none⟩), .int .i64 p, .int .i64 k] w fun e w' => e = .returned (.int .i64 (atO N L p k).1) ∧ BuL w' b N (atO N L p k).2 ∧ Grow1 b w w' := by
  unfold atO
  cases hz : inZ N p k with
  | false =>
    rw [if_neg (by simp)]
    exact (atL_bad w b N L p k h hz).mono fun e w' ⟨he, hw⟩ => by subst hw; exact ⟨he, h, Grow1.refl _ _⟩
  | true =>
    rw [if_pos rfl]
    obtain ⟨q, n, rfl, rfl, hin⟩ := inZ_true hz
    rw [Int.toNat_natCast, Int.toNat_natCast]
    refine (atL_ok w b N L (q, n) h hin).mono ?_
    rintro e w' ⟨hg, ⟨hf, he, hB⟩ | ⟨hf, he, hB⟩⟩
    · rw [if_pos hf]; exact ⟨he, hB, hg⟩
    · have hf : freeB L q n = false := hf
      rw [hf, if_neg (by simp)]; exact ⟨he, hB, hg⟩
theorem dr_both (w : World) (b N : Nat) (L : List Blk) (p k : Int) (h : BuL w b N L) :
    Calls Try.prog 71 #[.pointer (some ⟨b, 0, none⟩), .int .i64 p, .int .i64 k] w fun e w' => e = .returned (.int .i64 (drO N L p k).1) ∧ BuL w' b N (drO N L p k).2 ∧ Grow1 b w w' := by
  unfold drO
  cases hz : inZ N p k with
  | false =>
    rw [if_neg (by simp)]
    exact (freeL_bad w b N L p k h hz).mono fun e w' ⟨he, hw⟩ => by subst hw; exact ⟨he, h, Grow1.refl _ _⟩
  | true =>
    rw [if_pos rfl]
    obtain ⟨q, n, rfl, rfl, hin⟩ := inZ_true hz
    rw [Int.toNat_natCast, Int.toNat_natCast]
    refine (freeL_ok w b N L (q, n) h hin).mono ?_
    rintro e w' ⟨hg, ⟨hf, he, hB⟩ | ⟨hf, he, hB⟩⟩
    · rw [if_pos hf]; exact ⟨he, hB, hg⟩
    · rw [if_neg hf]; exact ⟨he, hB, hg⟩
theorem drR_both (w : World) (N : Nat) (A : Option Addr) (c : Nat) (L : List Blk) (p k : Int) (h : BlkAt w A c L) (hS : St N L) :
    Calls Try.prog 85 #[sv N A L.length c, .int .i64 p, .int .i64 k] w fun e w' => ∃ A' c', e = .returned (.tuple #[sv N A' (drO N L p k).2.length c', .int .i64 (drO N L p k).1]) ∧ NewS w w' A c L A' c' (drO N L p k).2 ∧ Below w.heap.size w w' := by
  unfold drO
  cases hz : inZ N p k with
  | false =>
    rw [if_neg (by simp)]
    exact (dropR_bad w N A c L.length p k hS.n10 hz).mono fun e w' ⟨he, hb⟩ => ⟨A, c, he, .inl ⟨rfl, rfl, rfl⟩, hb⟩
  | true =>
    rw [if_pos rfl]
    obtain ⟨q, n, rfl, rfl, hin⟩ := inZ_true hz
    rw [Int.toNat_natCast, Int.toNat_natCast]
    refine (dropR_ok w N A c L (q, n) hS.n10 h (by have := st_len hS; omega) hin).mono ?_
    rintro e w' ⟨⟨hf, A', c', he, ho⟩ | ⟨hf, he⟩, hb⟩
    · rw [if_pos hf]; exact ⟨A', c', he, .inr ho, hb⟩
    · rw [if_neg hf]; exact ⟨A, c, he, .inl ⟨rfl, rfl, rfl⟩, hb⟩

def owO (N : Nat) (L : List Blk) (page : Int) : Int × Int × Int :=
  if page < 0 ∨ ((2 ^ N : Nat) : Int) ≤ page then (0, 0, 7) else match ownerB L page.toNat with | some x => ((x.1 : Int), (x.2 : Int), 0) | none => (0, 0, 4)
theorem ow_both (w : World) (b N : Nat) (L : List Blk) (page : Int) (h : BuL w b N L) :
    Calls Try.prog 61 #[.pointer (some ⟨b, 0, none⟩), .int .i64 page] w fun e w' => e = .returned (.tuple #[.agg #[.int .i64 (owO N L page).1, .int .i64 (owO N L page).2.1], .int .i64 (owO N L page).2.2]) ∧ Below w.heap.size w w' := by
  unfold owO
  by_cases hp : page < 0 ∨ ((2 ^ N : Nat) : Int) ≤ page
  · rw [if_pos hp]; exact ownerL_bad w b N L page h hp
  · rw [if_neg hp]
    obtain ⟨q, rfl⟩ := Int.eq_ofNat_of_zero_le (show 0 ≤ page by omega)
    have := ownerL_ok w b N L q h (by omega)
    rw [Int.toNat_natCast]
    cases e : ownerB L q <;> (rw [e] at this; exact this)
theorem owR_both (w : World) (N : Nat) (A : Option Addr) (c : Nat) (L : List Blk) (page : Int) (h : BlkAt w A c L) (hS : St N L) :
    Calls Try.prog 90 #[sv N A L.length c, .int .i64 page] w fun e w' => e = .returned (.tuple #[.agg #[.int .i64 (owO N L page).1, .int .i64 (owO N L page).2.1], .int .i64 (owO N L page).2.2]) ∧ Below w.heap.size w w' := by
  unfold owO
  by_cases hp : page < 0 ∨ ((2 ^ N : Nat) : Int) ≤ page
  · rw [if_pos hp]; exact ownerR_bad w N A c L page hS.n10 hp
  · rw [if_neg hp]
    obtain ⟨q, rfl⟩ := Int.eq_ofNat_of_zero_le (show 0 ≤ page by omega)
    have := ownerR_ok w N A c L q hS.n10 h (st_le hS) (by omega)
    rw [Int.toNat_natCast]
    cases e : ownerB L q <;> (rw [e] at this; exact this)

def roO (N : Nat) (L : List Blk) (k : Int) : Int × Int := if 0 ≤ k ∧ k ≤ 10 then (((roomB k.toNat (blocksB N L) : Nat) : Int), 0) else (0, 7)
theorem ro_both (w : World) (b N : Nat) (L : List Blk) (k : Int) (h : BuL w b N L) :
    Calls Try.prog 51 #[.pointer (some ⟨b, 0, none⟩), .int .i64 k] w fun e w' => e = .returned (.tuple #[.int .i64 (roO N L k).1, .int .i64 (roO N L k).2]) ∧ Below w.heap.size w w' := by
  unfold roO
  by_cases hk : 0 ≤ k ∧ k ≤ 10
  · rw [if_pos hk]
    obtain ⟨n, rfl⟩ := Int.eq_ofNat_of_zero_le hk.1
    exact roomL_ok w b N L n h (by omega)
  · rw [if_neg hk]; exact roomL_bad w b N L k h hk
def lgO (N : Nat) (L : List Blk) : Int × Int := match largeB none (blocksB N L) with | some k => ((k : Int), 0) | none => (0, 4)
end Bu
end Go.Proofs.Ytlknhbcambdccaa
