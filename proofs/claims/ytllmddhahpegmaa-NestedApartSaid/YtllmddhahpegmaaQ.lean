/- The examples: hundred, awake, NestedKnown. -/
import Derived.Test.YtllmddhahpegmaaP
namespace Go.Proofs.Ytllmddhahpegmaa
open Go.RowKit
namespace Ne

/-- A tree that was made since a world. -/
structure Held (w0 w : World) (own : Nat → Option Nat) (t : Nat) (M : Tr) : Prop where
  tree : Tree w own t M
  good : Good M
  fresh : Fresh own w
  low : ∀ k, k < w0.heap.size → own k = none
  below : Below w0.heap.size w0 w

theorem Held.step {w0 w w' : World} {own own' : Nat → Option Nat} {t : Nat} {M M' : Tr} (h : Held w0 w own t M) (ht : Tree w' own' t M') (hg : Good M') (hk : Keeps own own' w w') : Held w0 w' own' t M' :=
  ⟨ht, hg, h.fresh.keeps hk, fun k hk' => (hk.same k (Nat.lt_of_lt_of_le hk' h.below.size)).trans (h.low k hk'),
    ⟨hk.os.trans h.below.os, hk.tape.trans h.below.tape, hk.output.trans h.below.output, Nat.le_trans h.below.size hk.size,
      fun k hk' => (hk.block k (Nat.lt_of_lt_of_le hk' h.below.size) (h.low k hk')).trans (h.below.block k hk')⟩⟩

theorem Held.of_below {w0 w w' : World} {own : Nat → Option Nat} {t : Nat} {M : Tr} (h : Held w0 w own t M) (hb : Below w.heap.size w w') : Held w0 w' own t M :=
  h.step (h.tree.below hb) h.good (.of_below own hb)

section
variable {w0 w : World} {own : Nat → Option Nat} {t : Nat} {M M' : Tr} (H : Held w0 w own t M)
include H
theorem step_alloc (i sz al : Int) {a b : Int} (he : alloc M i sz al = (M', a, b)) :
    Calls Try.prog 16 #[.pointer (some ⟨t, 0, none⟩), .int .i64 i, .int .i64 sz, .int .i64 al] w fun e w' => ∃ own', e = .returned (.tuple #[.int .i64 a, .int .i64 b]) ∧ Held w0 w' own' t M' := by
  refine (alloc_tree w own t M i sz al H.tree H.good).mono ?_
  rintro e w' ⟨rfl, own', hT, hK⟩
  have hg := alloc_keeps H.good i sz al
  rw [he] at hT hg ⊢
  exact ⟨own', rfl, H.step hT hg hK⟩
theorem step_begin (i sz al : Int) {a b : Int} (he : begin_ M i sz al = (M', a, b)) :
    Calls Try.prog 22 #[.pointer (some ⟨t, 0, none⟩), .int .i64 i, .int .i64 sz, .int .i64 al] w fun e w' => ∃ own', e = .returned (.tuple #[.int .i64 a, .int .i64 b]) ∧ Held w0 w' own' t M' := by
  refine (begin_tree w own t M i sz al H.tree H.good).mono ?_
  rintro e w' ⟨rfl, own', hT, hK⟩
  have hg := begin_keeps H.good i sz al
  rw [he] at hT hg ⊢
  exact ⟨own', rfl, H.step hT hg hK⟩
theorem step_rewind (i m : Int) {F : Nat} (hF : Big M F) {b : Int} (he : rewindTo M F i m = (M', b)) :
    Calls Try.prog 20 #[.pointer (some ⟨t, 0, none⟩), .int .i64 i, .int .i64 m] w fun e w' => ∃ own', e = .returned (.int .i64 b) ∧ Held w0 w' own' t M' := by
  refine (rewind_tree w own t M i m F H.tree H.good hF).mono ?_
  rintro e w' ⟨rfl, own', hT, hK⟩
  have hg := rewind_good H.good hF i m
  rw [he] at hT hg ⊢
  exact ⟨own', rfl, H.step hT hg hK⟩
theorem step_stop (i : Int) {F : Nat} (hF : Big M F) {b : Int} (he : stopAt M F i = (M', b)) :
    Calls Try.prog 18 #[.pointer (some ⟨t, 0, none⟩), .int .i64 i] w fun e w' => ∃ own', e = .returned (.int .i64 b) ∧ Held w0 w' own' t M' := by
  refine (stop_tree w own t M i F H.tree H.good hF).mono ?_
  rintro e w' ⟨rfl, own', hT, hK⟩
  have hg := stop_good H.good hF i
  rw [he] at hT hg ⊢
  exact ⟨own', rfl, H.step hT hg hK⟩
theorem step_mark (i : Int) {a b : Int} (he : mark M i = (a, b)) :
    Calls Try.prog 19 #[.pointer (some ⟨t, 0, none⟩), .int .i64 i] w fun e w' => ∃ own', e = .returned (.tuple #[.int .i64 a, .int .i64 b]) ∧ Held w0 w' own' t M := by
  refine (mark_tree' w own t M i H.tree H.good).mono ?_
  rintro e w' ⟨rfl, own', hT, hK⟩
  rw [he]
  exact ⟨own', rfl, H.step hT H.good hK⟩
theorem step_room (i : Int) {a b : Int} (he : roomOf M i = (a, b)) :
    Calls Try.prog 21 #[.pointer (some ⟨t, 0, none⟩), .int .i64 i] w fun e w' => ∃ own', e = .returned (.tuple #[.int .i64 a, .int .i64 b]) ∧ Held w0 w' own' t M := by
  refine (room_tree' w own t M i H.tree H.good).mono ?_
  rintro e w' ⟨rfl, own', hT, hK⟩
  rw [he]
  exact ⟨own', rfl, H.step hT H.good hK⟩
theorem step_live (i : Int) {F : Nat} (hF : Big M F) {a b : Int} (he : liveIn M F i = (a, b)) :
    Calls Try.prog 17 #[.pointer (some ⟨t, 0, none⟩), .int .i64 i] w fun e w' => ∃ own', e = .returned (.tuple #[.int .i64 a, .int .i64 b]) ∧ Held w0 w' own' t M := by
  refine (live_tree' w own t M i F H.tree H.good hF).mono ?_
  rintro e w' ⟨rfl, own', hT, hK⟩
  rw [he]
  exact ⟨own', rfl, H.step hT H.good hK⟩
theorem step_owner (y : Int) {r : Node} (hr : M[0]? = some (some r)) (hy : 0 ≤ y ∧ y < r.s) {a b : Int} (he : ∀ k i, Owns M y k i → (k : Int) = a ∧ i = b) :
    Calls Try.prog 14 #[.pointer (some ⟨t, 0, none⟩), .int .i64 y] w fun e w' => ∃ own', e = .returned (.tuple #[.int .i64 a, .int .i64 b, .int .i64 0]) ∧ Held w0 w' own' t M := by
  refine (owner_tree w own t M y r H.tree H.good hr).mono ?_
  rintro e w' ⟨⟨h1, _⟩ | ⟨_, _, k, i, rfl, ho⟩, hb⟩
  · omega
  · obtain ⟨rfl, rfl⟩ := he k i ho
    exact ⟨own, rfl, H.of_below hb⟩
end

theorem new_held (n : Int) (w : World) (h1 : 1 ≤ n) (h2 : n ≤ 65536) :
    Calls Try.prog 25 #[.int .i64 n] w fun e w' => ∃ own t, e = .returned (.tuple #[.pointer (some ⟨t, 0, none⟩), .int .i64 0]) ∧ Held w w' own t (newTr n) := by
  refine (new_tree n w h1 h2).mono ?_
  rintro e w' ⟨own, t, rfl, _, hT, hb, hf, hl⟩
  exact ⟨own, t, rfl, hT, new_good n h1 h2, hf, hl, hb⟩

def t1 : Tr := [some ⟨-1, 0, 100, [⟨0, 10, -1⟩]⟩]
def t2 : Tr := [some ⟨-1, 0, 100, [⟨0, 10, -1⟩, ⟨16, 30, 1⟩]⟩, some ⟨0, 16, 30, []⟩]
def t3 : Tr := [some ⟨-1, 0, 100, [⟨0, 10, -1⟩, ⟨16, 30, 1⟩]⟩, some ⟨0, 16, 30, [⟨16, 5, -1⟩]⟩]
def t4 : Tr := [some ⟨-1, 0, 100, [⟨0, 10, -1⟩, ⟨16, 30, 1⟩]⟩, some ⟨0, 16, 30, [⟨16, 5, -1⟩, ⟨21, 10, 2⟩]⟩, some ⟨1, 21, 10, []⟩]

theorem e1 : alloc (newTr 100) 0 10 1 = (t1, 0, 0) := by kernel_rfl
theorem e2 : begin_ t1 0 30 8 = (t2, 1, 0) := by kernel_rfl
theorem e3 : alloc t2 1 5 4 = (t3, 16, 0) := by kernel_rfl
theorem e4 : begin_ t3 1 10 1 = (t4, 2, 0) := by kernel_rfl

set_option maxRecDepth 100000 in
set_option maxHeartbeats 1000000 in
theorem hundred_ok (w : World) : Calls Try.prog 15 #[] w fun e w' => ∃ own t, e = .returned (.pointer (some ⟨t, 0, none⟩)) ∧ Held w w' own t t4 := by
  go_enter Try.func15, Try.ntmps15
  go_wp2_with (go_at_call 25; fail)
  refine (new_held 100 _ (by omega) (by omega)).mono ?_
  rintro e w1 ⟨own1, t, rfl, H1⟩
  go_wp2_with (go_at_call 16; fail)
  refine (step_alloc H1 0 10 1 e1).mono ?_
  rintro e w2 ⟨own2, rfl, H2⟩
  go_wp2_with (go_at_call 22; fail)
  refine (step_begin H2 0 30 8 e2).mono ?_
  rintro e w3 ⟨own3, rfl, H3⟩
  go_wp2_with (go_at_call 16; fail)
  refine (step_alloc H3 1 5 4 e3).mono ?_
  rintro e w4 ⟨own4, rfl, H4⟩
  go_wp2_with (go_at_call 22; fail)
  refine (step_begin H4 1 10 1 e4).mono ?_
  rintro e w5 ⟨own5, rfl, H5⟩
  go_wp2
  go_ret
  exact ⟨own5, t, rfl, H5⟩
end Ne
end Go.Proofs.Ytllmddhahpegmaa
