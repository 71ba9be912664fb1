/- The calls on a tree, each with what it answers and leaves. The examples: hundred, awake, NestedKnown. awake, and the statement NestedKnown's walk. -/
import Derived.Test.YtllmddhahpegmaaM6
namespace Go.Proofs.Ytllmddhahpegmaa
open Go.RowKit
namespace Ne

theorem Does.of_below {w : World} {own : Nat → Option Nat} {t : Nat} {M : Tr} {v : Value} {e : Ending} {w' : World} (h : Tree w own t M) (he : e = .returned v) (hb : Below w.heap.size w w') : Does w own t M v e w' :=
  ⟨he, own, h.below hb, .of_below own hb⟩

theorem rewind_tree (w : World) (own : Nat → Option Nat) (t : Nat) (M : Tr) (i m : Int) (F : Nat) (h : Tree w own t M) (hg : Good M) (hF : Big M F) :
    Calls Try.prog 20 #[.pointer (some ⟨t, 0, none⟩), .int .i64 i, .int .i64 m] w (Does w own t (rewindTo M F i m).1 (.int .i64 (rewindTo M F i m).2)) := by
  have hT := h
  obtain ⟨g, cap, cs, h⟩ := h
  unfold rewindTo
  rcases find_cases w own t g cap cs M i h hg with ⟨hf, hc⟩ | ⟨n, b, A, c, hf, h0, hM, hcs, hob, hb, hl, hok, hc⟩
  · rw [hf]
    refine (rewind_err w t i m hc).mono ?_
    rintro e w' ⟨rfl, rfl⟩
    exact .of_below hT rfl (Below.refl _ _)
  · rw [hf]
    dsimp only
    by_cases hm : m < 0 ∨ n.l.length < m
    · rw [if_pos hm]
      refine (rewind_out w t i m b A n.l.length c hok.len (nodeOpen hb).2.2.2.1 hm hc).mono ?_
      rintro e w' ⟨rfl, rfl⟩
      exact .of_below hT rfl (Below.refl _ _)
    · rw [if_neg hm]
      obtain ⟨i, rfl⟩ := Int.eq_ofNat_of_zero_le h0
      obtain ⟨m, rfl⟩ := Int.eq_ofNat_of_zero_le (show 0 ≤ m by omega)
      rw [Int.toNat_natCast] at hM hcs ⊢
      rw [Int.toNat_natCast] at ⊢ hob hl
      obtain ⟨d, D, hr, hD⟩ := hF
      obtain ⟨s1, s2, s3⟩ := shut_good hg hr hM (List.drop_sublist m n.l) (F := F) (by omega)
      have hgi := not_gone hg hr hM (List.drop_sublist m n.l)
      have hg0 := root_stays hg hM (List.drop_sublist m n.l)
      obtain ⟨r, hr0, _⟩ := hg.root
      have hopen : (shut F M (n.l.drop m))[i]? = some (some n) := (s3 i hgi).trans hM
      exact rewind_ok w own t g cap F cs M i m n b A c h hg.len hM hcs hb hl hok.len (by omega) s1 ⟨r, (s3 0 hg0).trans hr0⟩ hopen (trim_open.2 hopen) hc

theorem stop_tree (w : World) (own : Nat → Option Nat) (t : Nat) (M : Tr) (i : Int) (F : Nat) (h : Tree w own t M) (hg : Good M) (hF : Big M F) :
    Calls Try.prog 18 #[.pointer (some ⟨t, 0, none⟩), .int .i64 i] w (Does w own t (stopAt M F i).1 (.int .i64 (stopAt M F i).2)) := by
  have hT := h
  obtain ⟨g, cap, cs, h⟩ := h
  unfold stopAt
  have hG := fun o => find_cases (w.alloc o) own t g cap cs M i (h.grow fun k hk => alloc_old w o k hk) hg
  rcases find_cases w own t g cap cs M i h hg with ⟨hf, hc⟩ | ⟨n, b, A, c, hf, h0, hM, hcs, hob, hb, hl, hok, hc⟩
  · rw [hf]
    refine (end_err w t i hc fun o => ?_).mono ?_
    · rcases hG o with ⟨_, h1⟩ | ⟨n, b, A, c, h1, _⟩
      · exact h1
      · rw [hf] at h1; cases h1
    · rintro e w' ⟨rfl, hb⟩
      exact .of_below hT rfl hb
  · rw [hf]
    dsimp only
    have hc' : ∀ o, Calls Try.prog 37 #[.pointer (some ⟨t, 0, none⟩), .int .i64 i] (w.alloc o) fun e w' => e = .returned (.tuple #[.pointer (some ⟨b, 0, none⟩), .int .i64 0]) ∧ w.alloc o = w' := by
      intro o
      rcases hG o with ⟨h1, _⟩ | ⟨n', b', A', c', _, _, _, h4, _, _, _, _, h1⟩
      · rw [hf] at h1; cases h1
      · rw [hcs] at h4
        injection h4 with h4; injection h4 with h4; injection h4 with h4; injection h4 with h4
        subst h4
        exact h1
    by_cases hi0 : i = 0
    · subst hi0
      rw [if_pos rfl]
      refine (end_root w t b hc').mono ?_
      rintro e w' ⟨rfl, hb⟩
      exact .of_below hT rfl hb
    · rw [if_neg hi0]
      obtain ⟨i, rfl⟩ := Int.eq_ofNat_of_zero_le h0
      rw [Int.toNat_natCast] at hM hcs hob hl
      obtain ⟨hp, q, x, hq, hx, hxc, hfx⟩ := stop_finds hg hM (by omega)
      rw [hq]
      dsimp only
      rw [hx]
      dsimp only
      obtain ⟨d, D, hr, hD⟩ := hF
      have hsub : [x].Sublist q.l := List.singleton_sublist.2 (List.mem_of_getElem? hx)
      obtain ⟨s1, s2, s3⟩ := shut_good hg hr hq hsub (F := F) (by omega)
      have hgi := not_gone hg hr hq hsub
      have hg0 := root_stays hg hq hsub
      obtain ⟨r, hr0, _⟩ := hg.root
      have hopen : (shut F M [x])[n.p.toNat]? = some (some q) := (s3 _ hgi).trans hq
      exact end_ok' w own t g cap F cs M i n.p.toNat (placeOf q i) x n q b _ h hg.len (by omega) hcs hb (by omega) hq (hg.node _ _ hq).len hfx hx s1 ⟨r, (s3 0 hg0).trans hr0⟩ hopen (trim_open.2 hopen) hc'

theorem mark_tree' (w : World) (own : Nat → Option Nat) (t : Nat) (M : Tr) (i : Int) (h : Tree w own t M) (hg : Good M) :
    Calls Try.prog 19 #[.pointer (some ⟨t, 0, none⟩), .int .i64 i] w (Does w own t M (.tuple #[.int .i64 (mark M i).1, .int .i64 (mark M i).2])) := by
  have hT := h
  obtain ⟨g, cap, cs, h⟩ := h
  refine (mark_tree w own t g cap cs M i h hg).mono ?_
  rintro e w' ⟨rfl, rfl⟩
  exact .of_below hT rfl (Below.refl _ _)

theorem room_tree' (w : World) (own : Nat → Option Nat) (t : Nat) (M : Tr) (i : Int) (h : Tree w own t M) (hg : Good M) :
    Calls Try.prog 21 #[.pointer (some ⟨t, 0, none⟩), .int .i64 i] w (Does w own t M (.tuple #[.int .i64 (roomOf M i).1, .int .i64 (roomOf M i).2])) := by
  have hT := h
  obtain ⟨g, cap, cs, h⟩ := h
  refine (room_tree w own t g cap cs M i h hg).mono ?_
  rintro e w' ⟨rfl, k, rfl⟩
  exact .of_below hT rfl (below_drewN (Below.refl _ _) _)

theorem live_tree' (w : World) (own : Nat → Option Nat) (t : Nat) (M : Tr) (i : Int) (F : Nat) (h : Tree w own t M) (hg : Good M) (hF : Big M F) :
    Calls Try.prog 17 #[.pointer (some ⟨t, 0, none⟩), .int .i64 i] w (Does w own t M (.tuple #[.int .i64 (liveIn M F i).1, .int .i64 (liveIn M F i).2])) := by
  have hT := h
  obtain ⟨g, cap, cs, h⟩ := h
  obtain ⟨d, D, hr, hD⟩ := hF
  refine (live_tree w own t g cap cs M i F h hg fun n hn => (live_ok hg hr F i.toNat n (find_some hn).2 (by omega)).1).mono ?_
  rintro e w' ⟨rfl, hb⟩
  exact .of_below hT rfl hb

/-- What Owner answers. -/
theorem owner_tree (w : World) (own : Nat → Option Nat) (t : Nat) (M : Tr) (y : Int) (r : Node) (h : Tree w own t M) (hg : Good M) (hr : M[0]? = some (some r)) :
    Calls Try.prog 14 #[.pointer (some ⟨t, 0, none⟩), .int .i64 y] w fun e w' => ((y < 0 ∨ r.s ≤ y) ∧ e = .returned (.tuple #[.int .i64 0, .int .i64 0, .int .i64 7]) ∨
      0 ≤ y ∧ y < r.s ∧ ∃ k i, e = .returned (.tuple #[.int .i64 (k : Nat), .int .i64 i, .int .i64 0]) ∧ Owns M y k i) ∧ Below w.heap.size w w' := by
  obtain ⟨g, cap, cs, h⟩ := h
  by_cases hy : y < 0 ∨ r.s ≤ y
  · refine (owner_out w own t g cap cs M y r h hg hr hy).mono ?_
    rintro e w' ⟨rfl, hb⟩
    exact ⟨.inl ⟨hy, rfl⟩, hb⟩
  · obtain ⟨r', hr', hra⟩ := hg.root
    rw [hr] at hr'
    injection hr' with hr'
    injection hr' with hr'
    subst hr'
    refine (owner_in w own t g cap cs M y r h hg hr hra (by omega) (by omega)).mono ?_
    rintro e w' ⟨⟨k, i, he, ho⟩, hb⟩
    exact ⟨.inr ⟨by omega, by omega, k, i, he, ho⟩, hb⟩
end Ne
end Go.Proofs.Ytllmddhahpegmaa
namespace Go.Proofs.Ytllmddhahpegmaa
open Go.RowKit
namespace Ne

/-- A tree that was made since a world. -/
structure Held (w0 w : World) (own : Nat → Option Nat) (t : Nat) (M : Tr) : Prop where
  tree : Tree w own t M
  good : Good M
  fresh : Fresh own w
  low : ∀ k, k < w0.heap.size → own k = none
  below : Below w0.heap.size w0 w

theorem Held.step {w0 w w' : World} {own own' : Nat → Option Nat} {t : Nat} {M M' : Tr} (h : Held w0 w own t M) (ht : Tree w' own' t M') (hg : Good M') (hk : Keeps own own' w w') : Held w0 w' own' t M' :=
  ⟨ht, hg, h.fresh.keeps hk, fun k hk' => (hk.same k (Nat.lt_of_lt_of_le hk' h.below.size)).trans (h.low k hk'),
    ⟨hk.os.trans h.below.os, hk.tape.trans h.below.tape, hk.output.trans h.below.output, Nat.le_trans h.below.size hk.size,
      fun k hk' => (hk.block k (Nat.lt_of_lt_of_le hk' h.below.size) (h.low k hk')).trans (h.below.block k hk')⟩⟩

theorem Held.of_below {w0 w w' : World} {own : Nat → Option Nat} {t : Nat} {M : Tr} (h : Held w0 w own t M) (hb : Below w.heap.size w w') : Held w0 w' own t M :=
  h.step (h.tree.below hb) h.good (.of_below own hb)

section
variable {w0 w : World} {own : Nat → Option Nat} {t : Nat} {M M' : Tr} (H : Held w0 w own t M)
include H
theorem step_alloc (i sz al : Int) {a b : Int} (he : alloc M i sz al = (M', a, b)) :
    Calls Try.prog 16 #[.pointer (some ⟨t, 0, none⟩), .int .i64 i, .int .i64 sz, .int .i64 al] w fun e w' => ∃ own', e = .returned (.tuple #[.int .i64 a, .int .i64 b]) ∧ Held w0 w' own' t M' := by
  refine (alloc_tree w own t M i sz al H.tree H.good).mono ?_
  rintro e w' ⟨rfl, own', hT, hK⟩
  have hg := alloc_keeps H.good i sz al
  rw [he] at hT hg ⊢
  exact ⟨own', rfl, H.step hT hg hK⟩
theorem step_begin (i sz al : Int) {a b : Int} (he : begin_ M i sz al = (M', a, b)) :
    Calls Try.prog 22 #[.pointer (some ⟨t, 0, none⟩), .int .i64 i, .int .i64 sz, .int .i64 al] w fun e w' => ∃ own', e = .returned (.tuple #[.int .i64 a, .int .i64 b]) ∧ Held w0 w' own' t M' := by
  refine (begin_tree w own t M i sz al H.tree H.good).mono ?_
  rintro e w' ⟨rfl, own', hT, hK⟩
  have hg := begin_keeps H.good i sz al
  rw [he] at hT hg ⊢
  exact ⟨own', rfl, H.step hT hg hK⟩
theorem step_rewind (i m : Int) {F : Nat} (hF : Big M F) {b : Int} (he : rewindTo M F i m = (M', b)) :
    Calls Try.prog 20 #[.pointer (some ⟨t, 0, none⟩), .int .i64 i, .int .i64 m] w fun e w' => ∃ own', e = .returned (.int .i64 b) ∧ Held w0 w' own' t M' := by
  refine (rewind_tree w own t M i m F H.tree H.good hF).mono ?_
  rintro e w' ⟨rfl, own', hT, hK⟩
  have hg := rewind_good H.good hF i m
  rw [he] at hT hg ⊢
  exact ⟨own', rfl, H.step hT hg hK⟩
theorem step_stop (i : Int) {F : Nat} (hF : Big M F) {b : Int} (he : stopAt M F i = (M', b)) :
    Calls Try.prog 18 #[.pointer (some ⟨t, 0, none⟩), .int .i64 i] w fun e w' => ∃ own', e = .returned (.int .i64 b) ∧ Held w0 w' own' t M' := by
  refine (stop_tree w own t M i F H.tree H.good hF).mono ?_
  rintro e w' ⟨rfl, own', hT, hK⟩
  have hg := stop_good H.good hF i
  rw [he] at hT hg ⊢
  exact ⟨own', rfl, H.step hT hg hK⟩
theorem step_mark (i : Int) {a b : Int} (he : mark M i = (a, b)) :
    Calls Try.prog 19 #[.pointer (some ⟨t, 0, none⟩), .int .i64 i] w fun e w' => ∃ own', e = .returned (.tuple #[.int .i64 a, .int .i64 b]) ∧ Held w0 w' own' t M := by
  refine (mark_tree' w own t M i H.tree H.good).mono ?_
  rintro e w' ⟨rfl, own', hT, hK⟩
  rw [he]
  exact ⟨own', rfl, H.step hT H.good hK⟩
theorem step_room (i : Int) {a b : Int} (he : roomOf M i = (a, b)) :
    Calls Try.prog 21 #[.pointer (some ⟨t, 0, none⟩), .int .i64 i] w fun e w' => ∃ own', e = .returned (.tuple #[.int .i64 a, .int .i64 b]) ∧ Held w0 w' own' t M := by
  refine (room_tree' w own t M i H.tree H.good).mono ?_
  rintro e w' ⟨rfl, own', hT, hK⟩
  rw [he]
  exact ⟨own', rfl, H.step hT H.good hK⟩
theorem step_live (i : Int) {F : Nat} (hF : Big M F) {a b : Int} (he : liveIn M F i = (a, b)) :
    Calls Try.prog 17 #[.pointer (some ⟨t, 0, none⟩), .int .i64 i] w fun e w' => ∃ own', e = .returned (.tuple #[.int .i64 a, .int .i64 b]) ∧ Held w0 w' own' t M := by
  refine (live_tree' w own t M i F H.tree H.good hF).mono ?_
  rintro e w' ⟨rfl, own', hT, hK⟩
  rw [he]
  exact ⟨own', rfl, H.step hT H.good hK⟩
theorem step_owner (y : Int) {r : Node} (hr : M[0]? = some (some r)) (hy : 0 ≤ y ∧ y < r.s) {a b : Int} (he : ∀ k i, Owns M y k i → (k : Int) = a ∧ i = b) :
    Calls Try.prog 14 #[.pointer (some ⟨t, 0, none⟩), .int .i64 y] w fun e w' => ∃ own', e = .returned (.tuple #[.int .i64 a, .int .i64 b, .int .i64 0]) ∧ Held w0 w' own' t M := by
  refine (owner_tree w own t M y r H.tree H.good hr).mono ?_
  rintro e w' ⟨⟨h1, _⟩ | ⟨_, _, k, i, rfl, ho⟩, hb⟩
  · omega
  · obtain ⟨rfl, rfl⟩ := he k i ho
    exact ⟨own, rfl, H.of_below hb⟩
end

theorem new_held (n : Int) (w : World) (h1 : 1 ≤ n) (h2 : n ≤ 65536) :
    Calls Try.prog 25 #[.int .i64 n] w fun e w' => ∃ own t, e = .returned (.tuple #[.pointer (some ⟨t, 0, none⟩), .int .i64 0]) ∧ Held w w' own t (newTr n) := by
  refine (new_tree n w h1 h2).mono ?_
  rintro e w' ⟨own, t, rfl, _, hT, hb, hf, hl⟩
  exact ⟨own, t, rfl, hT, new_good n h1 h2, hf, hl, hb⟩

def t1 : Tr := [some ⟨-1, 0, 100, [⟨0, 10, -1⟩]⟩]
def t2 : Tr := [some ⟨-1, 0, 100, [⟨0, 10, -1⟩, ⟨16, 30, 1⟩]⟩, some ⟨0, 16, 30, []⟩]
def t3 : Tr := [some ⟨-1, 0, 100, [⟨0, 10, -1⟩, ⟨16, 30, 1⟩]⟩, some ⟨0, 16, 30, [⟨16, 5, -1⟩]⟩]
def t4 : Tr := [some ⟨-1, 0, 100, [⟨0, 10, -1⟩, ⟨16, 30, 1⟩]⟩, some ⟨0, 16, 30, [⟨16, 5, -1⟩, ⟨21, 10, 2⟩]⟩, some ⟨1, 21, 10, []⟩]

theorem e1 : alloc (newTr 100) 0 10 1 = (t1, 0, 0) := by kernel_rfl
theorem e2 : begin_ t1 0 30 8 = (t2, 1, 0) := by kernel_rfl
theorem e3 : alloc t2 1 5 4 = (t3, 16, 0) := by kernel_rfl
theorem e4 : begin_ t3 1 10 1 = (t4, 2, 0) := by kernel_rfl

set_option maxRecDepth 100000 in
set_option maxHeartbeats 1000000 in
theorem hundred_ok (w : World) : Calls Try.prog 15 #[] w fun e w' => ∃ own t, e = .returned (.pointer (some ⟨t, 0, none⟩)) ∧ Held w w' own t t4 := by
  go_enter Try.func15, Try.ntmps15
  go_wp2_with (go_at_call 25; fail)
  refine (new_held 100 _ (by omega) (by omega)).mono ?_
  rintro e w1 ⟨own1, t, rfl, H1⟩
  go_wp2_with (go_at_call 16; fail)
  refine (step_alloc H1 0 10 1 e1).mono ?_
  rintro e w2 ⟨own2, rfl, H2⟩
  go_wp2_with (go_at_call 22; fail)
  refine (step_begin H2 0 30 8 e2).mono ?_
  rintro e w3 ⟨own3, rfl, H3⟩
  go_wp2_with (go_at_call 16; fail)
  refine (step_alloc H3 1 5 4 e3).mono ?_
  rintro e w4 ⟨own4, rfl, H4⟩
  go_wp2_with (go_at_call 22; fail)
  refine (step_begin H4 1 10 1 e4).mono ?_
  rintro e w5 ⟨own5, rfl, H5⟩
  go_wp2
  go_ret
  exact ⟨own5, t, rfl, H5⟩
end Ne
end Go.Proofs.Ytllmddhahpegmaa
namespace Go.Proofs.Ytllmddhahpegmaa
open Go.RowKit
namespace Ne

theorem owns_t4_25 : ∀ k i, Owns t4 25 k i → (k : Int) = 2 ∧ i = -1 := by
  rintro k i ⟨n, hk, h1, h2, rfl, hx⟩
  match k with
  | 0 =>
    simp [t4] at hk; subst hk
    exact absurd (hx ⟨16, 30, 1⟩ (by simp [fidx, hasByte, List.findIdx_cons]) (by simp [fidx, hasByte, List.findIdx_cons])) (by simp)
  | 1 =>
    simp [t4] at hk; subst hk
    exact absurd (hx ⟨21, 10, 2⟩ (by simp [fidx, hasByte, List.findIdx_cons]) (by simp [fidx, hasByte, List.findIdx_cons])) (by simp)
  | 2 =>
    simp [t4] at hk; subst hk
    exact ⟨rfl, by simp [fidx]⟩
  | k + 3 => simp [t4] at hk

theorem a1 : roomOf t4 0 = (54, 0) := by kernel_rfl
theorem a2 : roomOf t4 1 = (15, 0) := by kernel_rfl
theorem a3 : alloc t4 2 11 1 = (t4, 0, 5) := by kernel_rfl

set_option maxRecDepth 100000 in
set_option maxHeartbeats 1000000 in
theorem awake_ok (w : World) : Calls Try.prog 10 #[] w fun e w' => e = .returned (.bool true) ∧ Below w.heap.size w w' := by
  go_enter Try.func10, Try.ntmps10
  go_wp2_with (go_at_call 15; fail)
  refine (hundred_ok _).mono ?_
  rintro e w1 ⟨own1, t, rfl, H1⟩
  go_wp2_with (go_at_call 21; fail)
  refine (step_room H1 0 a1).mono ?_
  rintro e w2 ⟨own2, rfl, H2⟩
  go_wp2_with (go_at_call 21; fail)
  refine (step_room H2 1 a2).mono ?_
  rintro e w3 ⟨own3, rfl, H3⟩
  go_wp2_with (go_at_call 16; fail)
  refine (step_alloc H3 2 11 1 a3).mono ?_
  rintro e w4 ⟨own4, rfl, H4⟩
  go_wp2_with (go_at_call 14; fail)
  refine (step_owner H4 25 rfl (by decide) owns_t4_25).mono ?_
  rintro e w5 ⟨own5, rfl, H5⟩
  go_wp2
  go_ret
  exact ⟨rfl, H5.below⟩

def t5 : Tr := [some ⟨-1, 0, 100, [⟨0, 10, -1⟩, ⟨16, 30, 1⟩, ⟨46, 54, -1⟩]⟩, some ⟨0, 16, 30, [⟨16, 5, -1⟩, ⟨21, 10, 2⟩]⟩, some ⟨1, 21, 10, []⟩]
def t6 : Tr := [some ⟨-1, 0, 100, [⟨0, 10, -1⟩, ⟨16, 30, -2⟩, ⟨46, 54, -1⟩]⟩]
def t7 : Tr := [some ⟨-1, 0, 100, [⟨0, 10, -1⟩]⟩]

theorem big5 : Big t5 3 := by
  refine ⟨fun i => min i 2, 2, ⟨fun i => Nat.min_le_right _ _, fun i n hi x hx h0 => ?_⟩, by omega⟩
  match i with
  | 0 =>
    simp [t5] at hi; subst hi
    simp at hx
    rcases hx with rfl | rfl | rfl <;> simp at h0 ⊢
  | 1 =>
    simp [t5] at hi; subst hi
    simp at hx
    rcases hx with rfl | rfl <;> simp at h0 ⊢
  | 2 => simp [t5] at hi; subst hi; simp at hx
  | k + 3 => simp [t5] at hi
theorem big6 : Big t6 1 := by
  refine ⟨fun _ => 0, 0, ⟨fun i => Nat.le_refl _, fun i n hi x hx h0 => ?_⟩, by omega⟩
  match i with
  | 0 =>
    simp [t6] at hi; subst hi
    simp at hx
    rcases hx with rfl | rfl | rfl <;> simp at h0
  | k + 1 => simp [t6] at hi
theorem big7 : Big t7 1 := by
  refine ⟨fun _ => 0, 0, ⟨fun i => Nat.le_refl _, fun i n hi x hx h0 => ?_⟩, by omega⟩
  match i with
  | 0 =>
    simp [t7] at hi; subst hi
    simp at hx
    subst hx; simp at h0
  | k + 1 => simp [t7] at hi

theorem owns_t5_12 : ∀ k i, Owns t5 12 k i → (k : Int) = 0 ∧ i = -1 := by
  rintro k i ⟨n, hk, h1, h2, rfl, hx⟩
  match k with
  | 0 =>
    simp [t5] at hk; subst hk
    exact ⟨rfl, by simp [fidx, hasByte, List.findIdx_cons]⟩
  | 1 => simp [t5] at hk; subst hk; simp at h1
  | 2 => simp [t5] at hk; subst hk; simp at h1
  | k + 3 => simp [t5] at hk
theorem owns_t6_25 : ∀ k i, Owns t6 25 k i → (k : Int) = 0 ∧ i = 1 := by
  rintro k i ⟨n, hk, h1, h2, rfl, hx⟩
  match k with
  | 0 =>
    simp [t6] at hk; subst hk
    exact ⟨rfl, by simp [fidx, hasByte, List.findIdx_cons]⟩
  | k + 1 => simp [t6] at hk

theorem k1 : alloc t4 0 60 1 = (t4, 0, 5) := by kernel_rfl
theorem k2 : alloc t4 0 54 1 = (t5, 46, 0) := by kernel_rfl
theorem k3 : liveIn t5 3 0 = (69, 0) := by kernel_rfl
theorem k4 : stopAt t5 3 1 = (t6, 0) := by kernel_rfl
theorem k5 : mark t6 0 = (3, 0) := by kernel_rfl
theorem k6 : alloc t6 0 1 1 = (t6, 0, 5) := by kernel_rfl
theorem k7 : rewindTo t6 1 0 2 = (t7, 0) := by kernel_rfl
theorem k8 : mark t7 0 = (1, 0) := by kernel_rfl
theorem k9 : roomOf t7 0 = (90, 0) := by kernel_rfl
theorem k10 : alloc t7 1 1 1 = (t7, 0, 4) := by kernel_rfl
theorem k11 : stopAt t7 1 0 = (t7, 2) := by kernel_rfl

set_option maxRecDepth 100000 in
set_option maxHeartbeats 2000000 in
theorem known_ok (w : World) : Calls Try.prog 4 #[] w fun e w' => e = .returned (.bool true) ∧ Below w.heap.size w w' := by
  go_enter Try.func4, Try.ntmps4
  go_wp2_with (go_at_call 15; fail)
  refine (hundred_ok _).mono ?_
  rintro e w1 ⟨own1, t, rfl, H1⟩
  go_wp2_with (go_at_call 16; fail)
  refine (step_alloc H1 0 60 1 k1).mono ?_
  rintro e w2 ⟨own2, rfl, H2⟩
  go_wp2_with (go_at_call 16; fail)
  refine (step_alloc H2 0 54 1 k2).mono ?_
  rintro e w3 ⟨own3, rfl, H3⟩
  go_wp2_with (go_at_call 17; fail)
  refine (step_live H3 0 big5 k3).mono ?_
  rintro e w4 ⟨own4, rfl, H4⟩
  go_wp2_with (go_at_call 14; fail)
  refine (step_owner H4 12 rfl (by decide) owns_t5_12).mono ?_
  rintro e w5 ⟨own5, rfl, H5⟩
  go_wp2_with (go_at_call 18; fail)
  refine (step_stop H5 1 big5 k4).mono ?_
  rintro e w6 ⟨own6, rfl, H6⟩
  go_wp2_with (go_at_call 19; fail)
  refine (step_mark H6 0 k5).mono ?_
  rintro e w7 ⟨own7, rfl, H7⟩
  go_wp2_with (go_at_call 14; fail)
  refine (step_owner H7 25 rfl (by decide) owns_t6_25).mono ?_
  rintro e w8 ⟨own8, rfl, H8⟩
  go_wp2_with (go_at_call 16; fail)
  refine (step_alloc H8 0 1 1 k6).mono ?_
  rintro e w9 ⟨own9, rfl, H9⟩
  go_wp2_with (go_at_call 20; fail)
  refine (step_rewind H9 0 2 big6 k7).mono ?_
  rintro e w10 ⟨own10, rfl, H10⟩
  go_wp2_with (go_at_call 19; fail)
  refine (step_mark H10 0 k8).mono ?_
  rintro e w11 ⟨own11, rfl, H11⟩
  go_wp2_with (go_at_call 21; fail)
  refine (step_room H11 0 k9).mono ?_
  rintro e w12 ⟨own12, rfl, H12⟩
  go_wp2_with (go_at_call 16; fail)
  refine (step_alloc H12 1 1 1 k10).mono ?_
  rintro e w13 ⟨own13, rfl, H13⟩
  go_wp2_with (go_at_call 18; fail)
  refine (step_stop H13 0 big7 k11).mono ?_
  rintro e w14 ⟨own14, rfl, H14⟩
  go_wp2_with (go_at_call 10; fail)
  refine (awake_ok _).mono ?_
  rintro e w15 ⟨rfl, hb⟩
  go_wp2
  go_ret
  exact ⟨rfl, H14.below.trans (hb.mono H14.below.size)⟩
end Ne
end Go.Proofs.Ytllmddhahpegmaa
