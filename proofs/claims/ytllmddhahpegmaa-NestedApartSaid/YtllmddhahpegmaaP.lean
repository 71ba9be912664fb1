/- The calls on a tree, each with what it answers and leaves. -/
import Derived.Test.YtllmddhahpegmaaO
namespace Go.Proofs.Ytllmddhahpegmaa
open Go.RowKit
namespace Ne

theorem Does.of_below {w : World} {own : Nat → Option Nat} {t : Nat} {M : Tr} {v : Value} {e : Ending} {w' : World} (h : Tree w own t M) (he : e = .returned v) (hb : Below w.heap.size w w') : Does w own t M v e w' :=
  ⟨he, own, h.below hb, .of_below own hb⟩

theorem rewind_tree (w : World) (own : Nat → Option Nat) (t : Nat) (M : Tr) (i m : Int) (F : Nat) (h : Tree w own t M) (hg : Good M) (hF : Big M F) :
    Calls Try.prog 20 #[.pointer (some ⟨t, 0, none⟩), .int .i64 i, .int .i64 m] w (Does w own t (rewindTo M F i m).1 (.int .i64 (rewindTo M F i m).2)) := by
  have hT := h
  obtain ⟨g, cap, cs, h⟩ := h
  unfold rewindTo
  rcases find_cases w own t g cap cs M i h hg with ⟨hf, hc⟩ | ⟨n, b, A, c, hf, h0, hM, hcs, hob, hb, hl, hok, hc⟩
  · rw [hf]
    refine (rewind_err w t i m hc).mono ?_
    rintro e w' ⟨rfl, rfl⟩
    exact .of_below hT rfl (Below.refl _ _)
  · rw [hf]
    dsimp only
    by_cases hm : m < 0 ∨ n.l.length < m
    · rw [if_pos hm]
      refine (rewind_out w t i m b A n.l.length c hok.len (nodeOpen hb).2.2.2.1 hm hc).mono ?_
      rintro e w' ⟨rfl, rfl⟩
      exact .of_below hT rfl (Below.refl _ _)
    · rw [if_neg hm]
      obtain ⟨i, rfl⟩ := Int.eq_ofNat_of_zero_le h0
      obtain ⟨m, rfl⟩ := Int.eq_ofNat_of_zero_le (show 0 ≤ m by omega)
      rw [Int.toNat_natCast] at hM hcs ⊢
      rw [Int.toNat_natCast] at ⊢ hob hl
      obtain ⟨d, D, hr, hD⟩ := hF
      obtain ⟨s1, s2, s3⟩ := shut_good hg hr hM (List.drop_sublist m n.l) (F := F) (by omega)
      have hgi := not_gone hg hr hM (List.drop_sublist m n.l)
      have hg0 := root_stays hg hM (List.drop_sublist m n.l)
      obtain ⟨r, hr0, _⟩ := hg.root
      have hopen : (shut F M (n.l.drop m))[i]? = some (some n) := (s3 i hgi).trans hM
      exact rewind_ok w own t g cap F cs M i m n b A c h hg.len hM hcs hb hl hok.len (by omega) s1 ⟨r, (s3 0 hg0).trans hr0⟩ hopen (trim_open.2 hopen) hc

theorem stop_tree (w : World) (own : Nat → Option Nat) (t : Nat) (M : Tr) (i : Int) (F : Nat) (h : Tree w own t M) (hg : Good M) (hF : Big M F) :
    Calls Try.prog 18 #[.pointer (some ⟨t, 0, none⟩), .int .i64 i] w (Does w own t (stopAt M F i).1 (.int .i64 (stopAt M F i).2)) := by
  have hT := h
  obtain ⟨g, cap, cs, h⟩ := h
  unfold stopAt
  have hG := fun o => find_cases (w.alloc o) own t g cap cs M i (h.grow fun k hk => alloc_old w o k hk) hg
  rcases find_cases w own t g cap cs M i h hg with ⟨hf, hc⟩ | ⟨n, b, A, c, hf, h0, hM, hcs, hob, hb, hl, hok, hc⟩
  · rw [hf]
    refine (end_err w t i hc fun o => ?_).mono ?_
    · rcases hG o with ⟨_, h1⟩ | ⟨n, b, A, c, h1, _⟩
      · exact h1
      · rw [hf] at h1; cases h1
    · rintro e w' ⟨rfl, hb⟩
      exact .of_below hT rfl hb
  · rw [hf]
    dsimp only
    have hc' : ∀ o, Calls Try.prog 37 #[.pointer (some ⟨t, 0, none⟩), .int .i64 i] (w.alloc o) fun e w' => e = .returned (.tuple #[.pointer (some ⟨b, 0, none⟩), .int .i64 0]) ∧ w.alloc o = w' := by
      intro o
      rcases hG o with ⟨h1, _⟩ | ⟨n', b', A', c', _, _, _, h4, _, _, _, _, h1⟩
      · rw [hf] at h1; cases h1
      · rw [hcs] at h4
        injection h4 with h4; injection h4 with h4; injection h4 with h4; injection h4 with h4
        subst h4
        exact h1
    by_cases hi0 : i = 0
    · subst hi0
      rw [if_pos rfl]
      refine (end_root w t b hc').mono ?_
      rintro e w' ⟨rfl, hb⟩
      exact .of_below hT rfl hb
    · rw [if_neg hi0]
      obtain ⟨i, rfl⟩ := Int.eq_ofNat_of_zero_le h0
      rw [Int.toNat_natCast] at hM hcs hob hl
      obtain ⟨hp, q, x, hq, hx, hxc, hfx⟩ := stop_finds hg hM (by omega)
      rw [hq]
      dsimp only
      rw [hx]
      dsimp only
      obtain ⟨d, D, hr, hD⟩ := hF
      have hsub : [x].Sublist q.l := List.singleton_sublist.2 (List.mem_of_getElem? hx)
      obtain ⟨s1, s2, s3⟩ := shut_good hg hr hq hsub (F := F) (by omega)
      have hgi := not_gone hg hr hq hsub
      have hg0 := root_stays hg hq hsub
      obtain ⟨r, hr0, _⟩ := hg.root
      have hopen : (shut F M [x])[n.p.toNat]? = some (some q) := (s3 _ hgi).trans hq
      exact end_ok' w own t g cap F cs M i n.p.toNat (placeOf q i) x n q b _ h hg.len (by omega) hcs hb (by omega) hq (hg.node _ _ hq).len hfx hx s1 ⟨r, (s3 0 hg0).trans hr0⟩ hopen (trim_open.2 hopen) hc'

theorem mark_tree' (w : World) (own : Nat → Option Nat) (t : Nat) (M : Tr) (i : Int) (h : Tree w own t M) (hg : Good M) :
    Calls Try.prog 19 #[.pointer (some ⟨t, 0, none⟩), .int .i64 i] w (Does w own t M (.tuple #[.int .i64 (mark M i).1, .int .i64 (mark M i).2])) := by
  have hT := h
  obtain ⟨g, cap, cs, h⟩ := h
  refine (mark_tree w own t g cap cs M i h hg).mono ?_
  rintro e w' ⟨rfl, rfl⟩
  exact .of_below hT rfl (Below.refl _ _)

theorem room_tree' (w : World) (own : Nat → Option Nat) (t : Nat) (M : Tr) (i : Int) (h : Tree w own t M) (hg : Good M) :
    Calls Try.prog 21 #[.pointer (some ⟨t, 0, none⟩), .int .i64 i] w (Does w own t M (.tuple #[.int .i64 (roomOf M i).1, .int .i64 (roomOf M i).2])) := by
  have hT := h
  obtain ⟨g, cap, cs, h⟩ := h
  refine (room_tree w own t g cap cs M i h hg).mono ?_
  rintro e w' ⟨rfl, k, rfl⟩
  exact .of_below hT rfl (below_drewN (Below.refl _ _) _)

theorem live_tree' (w : World) (own : Nat → Option Nat) (t : Nat) (M : Tr) (i : Int) (F : Nat) (h : Tree w own t M) (hg : Good M) (hF : Big M F) :
    Calls Try.prog 17 #[.pointer (some ⟨t, 0, none⟩), .int .i64 i] w (Does w own t M (.tuple #[.int .i64 (liveIn M F i).1, .int .i64 (liveIn M F i).2])) := by
  have hT := h
  obtain ⟨g, cap, cs, h⟩ := h
  obtain ⟨d, D, hr, hD⟩ := hF
  refine (live_tree w own t g cap cs M i F h hg fun n hn => (live_ok hg hr F i.toNat n (find_some hn).2 (by omega)).1).mono ?_
  rintro e w' ⟨rfl, hb⟩
  exact .of_below hT rfl hb

/-- What Owner answers. -/
theorem owner_tree (w : World) (own : Nat → Option Nat) (t : Nat) (M : Tr) (y : Int) (r : Node) (h : Tree w own t M) (hg : Good M) (hr : M[0]? = some (some r)) :
    Calls Try.prog 14 #[.pointer (some ⟨t, 0, none⟩), .int .i64 y] w fun e w' => ((y < 0 ∨ r.s ≤ y) ∧ e = .returned (.tuple #[.int .i64 0, .int .i64 0, .int .i64 7]) ∨
      0 ≤ y ∧ y < r.s ∧ ∃ k i, e = .returned (.tuple #[.int .i64 (k : Nat), .int .i64 i, .int .i64 0]) ∧ Owns M y k i) ∧ Below w.heap.size w w' := by
  obtain ⟨g, cap, cs, h⟩ := h
  by_cases hy : y < 0 ∨ r.s ≤ y
  · refine (owner_out w own t g cap cs M y r h hg hr hy).mono ?_
    rintro e w' ⟨rfl, hb⟩
    exact ⟨.inl ⟨hy, rfl⟩, hb⟩
  · obtain ⟨r', hr', hra⟩ := hg.root
    rw [hr] at hr'
    injection hr' with hr'
    injection hr' with hr'
    subst hr'
    refine (owner_in w own t g cap cs M y r h hg hr hra (by omega) (by omega)).mono ?_
    rintro e w' ⟨⟨k, i, he, ho⟩, hb⟩
    exact ⟨.inr ⟨by omega, by omega, k, i, he, ho⟩, hb⟩
end Ne
end Go.Proofs.Ytllmddhahpegmaa
