/- The walks of Room, Alloc, Begin. -/
import Derived.Test.YtllmddhahpegmaaB
import Derived.Laws.AppendOwn
import Derived.Deep.AppendLies
import Derived.WalkSmall
namespace Go.Proofs.Ytllmddhahpegmaa
open Go.RowKit
namespace Ne

theorem find_at {M : Tr} {i : Int} {n : Node} (hfi : find M i = some n) : 0 ≤ i ∧ M[i.toNat]? = some (some n) := by
  unfold find at hfi
  split at hfi
  · cases hfi
  · refine ⟨by omega, ?_⟩
    cases e : M[i.toNat]? with
    | none => rw [e] at hfi; cases hfi
    | some o => rw [e] at hfi; simp at hfi; rw [hfi]

/-- The two ways of find. -/
theorem find_cases (w : World) (own : Nat → Option Nat) (t g cap : Nat) (cs : Array Value) (M : Tr) (i : Int) (h : TreeAt w own t g cap cs M) (hg : Good M) :
    (find M i = none ∧ Calls Try.prog 37 #[.pointer (some ⟨t, 0, none⟩), .int .i64 i] w fun e w' => e = .returned (.tuple #[.pointer none, .int .i64 4]) ∧ w = w') ∨
    ∃ n b A c, find M i = some n ∧ 0 ≤ i ∧ M[i.toNat]? = some (some n) ∧ cs[i.toNat]? = some (.pointer (some ⟨b, 0, none⟩)) ∧ own b = some (2 * i.toNat + 2) ∧ w.heap[b]? = some (NodeCells n (.slice A n.l.length c)) ∧ ItemsAt w own i.toNat (.slice A n.l.length c) n.l ∧
      NodeOk M i.toNat n ∧ Calls Try.prog 37 #[.pointer (some ⟨t, 0, none⟩), .int .i64 i] w fun e w' => e = .returned (.tuple #[.pointer (some ⟨b, 0, none⟩), .int .i64 0]) ∧ w = w' := by
  have hF := find_tree w own t g cap cs M i h ⟨hg.pos, hg.len⟩
  cases hfi : find M i with
  | none =>
    refine .inl ⟨rfl, hF.mono ?_⟩
    rintro e w' ⟨h1 | ⟨n, b, iv, h1, _⟩, rfl⟩
    · exact ⟨h1.2, rfl⟩
    · rw [hfi] at h1; cases h1
  | some n =>
    have h0 := find_at hfi
    obtain ⟨v, hv, b, iv, rfl, hob, hb, hl⟩ := h.node _ _ h0.2
    obtain ⟨A, c, rfl⟩ := itemsLen hl
    refine .inr ⟨n, b, A, c, rfl, h0.1, h0.2, hv, hob, hb, hl, hg.node _ _ h0.2, hF.mono ?_⟩
    rintro e w' ⟨h1 | ⟨n', b', iv', h1, h2, h3, h4, _, _, _, h5⟩, rfl⟩
    · rw [hfi] at h1; cases h1.1
    · rw [hv] at h4
      injection h4 with h4; injection h4 with h4; injection h4 with h4; injection h4 with h4
      subst h4
      exact ⟨h5, rfl⟩

set_option maxHeartbeats 400000 in
theorem room_tree (w : World) (own : Nat → Option Nat) (t g cap : Nat) (cs : Array Value) (M : Tr) (i : Int) (h : TreeAt w own t g cap cs M) (hg : Good M) :
    Calls Try.prog 21 #[.pointer (some ⟨t, 0, none⟩), .int .i64 i] w fun e w' => e = .returned (.tuple #[.int .i64 (roomOf M i).1, .int .i64 (roomOf M i).2]) ∧ ∃ k, w' = w.drewN k := by
  rcases find_cases w own t g cap cs M i h hg with ⟨hf, hc⟩ | ⟨n, b, A, c, hf, h0, hM, _, _, hb, hl, hok, hc⟩
  · have H := Lib.hid hc
    rw [show roomOf M i = (0, 4) by simp [roomOf, hf]]
    clear hc hf h hg
    go_enter Try.func21, Try.ntmps21
    go_wp2_with (first | (go_at_call 37; refine H.out.mono ?_; rintro e w' ⟨rfl, rfl⟩))
    go_ret2
    exact ⟨rfl, 0, rfl⟩
  · have H := Lib.hid hc
    rw [show roomOf M i = (n.a + n.s - n.fin, 0) by simp [roomOf, hf]]
    have HE := Lib.hid (fun k => end_ok (w.drewN k) b n _ hb hl.1 (small_of hok) hok.len)
    have hfin := hok.fin
    obtain ⟨c0, c1, c2, c3, c4, _⟩ := nodeOpen hb
    have ha := hok.a0
    have hs := hok.s1
    have ht := hok.top
    generalize n.fin = F at *
    clear hc hf h hg hb hl hok hM
    go_enter Try.func21, Try.ntmps21
    go_wp2_with (first | (go_at_call 37; refine H.out.mono ?_; rintro e w' ⟨rfl, rfl⟩))
    go_quiet ((go_at_call 42; exact Calls.quiet_of (HE.out _)))
    go_wp2
    go_ret2
    exact ⟨rfl, _, rfl⟩
/-- An item more, behind append and the store of the slice. -/
theorem push_item {w w2 w1 : World} {own : Nat → Option Nat} {t g cap : Nat} {cs : Array Value} {M : Tr} {i b : Nat} {n : Node} {iv : Value} {x : Item} {g' cap' : Nat} (h : TreeAt w own t g cap cs M)
    (hi : M[i]? = some (some n)) (hc : cs[i]? = some (.pointer (some ⟨b, 0, none⟩))) (hb : w.heap[b]? = some (NodeCells n iv)) (hl : ItemsAt w own i iv n.l)
    (h2 : Below w.heap.size w w2)
    (hown : w1.ownsRow 0 54 3 (.slice (some ⟨g', 0, none⟩) (n.l.length + 1) cap') (n.l.length + 1) (icells n.l ++ x.cells)) (hg : w2.grownBy w1 iv.ownBlock) (hat : iv.ownBlock = some g' ∨ g' = w2.heap.size) :
    ∃ own', TreeAt (w1.setCell ⟨b, 3, none⟩ (.slice (some ⟨g', 0, none⟩) (n.l.length + 1) cap')) own' t g cap cs (M.set i (some { n with l := n.l ++ [x] })) ∧
      Keeps own own' w (w1.setCell ⟨b, 3, none⟩ (.slice (some ⟨g', 0, none⟩) (n.l.length + 1) cap')) := by
  refine ⟨fun k => if k = g' then some (2 * i + 3) else own k, h.setItems hi hc hb (hg.os.trans h2.os) (hg.tape.trans h2.tape) (hg.output.trans h2.output) (Nat.le_trans h2.size hg.size) (fun k h3 h4 => ?_) (fun k h3 => ?_) (fun k h3 => ?_) ⟨?_, ?_⟩⟩
  · rw [hg.block k (Nat.lt_of_lt_of_le h4 h2.size) (fun e => h3 (hl.2 k e.symm)), h2.block k h4]
  · show (if k = g' then _ else own k) = own k
    split
    · next e =>
      rcases hat with hat | hat
      · rw [e, hl.2 g' hat]
      · have := h2.size; omega
    · rfl
  · by_cases e : k = g'
    · subst e
      rcases hat with hat | hat
      · exact .inl (by rw [hl.2 k hat]; simp)
      · refine .inr ⟨by have := h2.size; omega, ?_⟩
        exact (hown.lt k rfl).2
    · have : own k ≠ none := by
        have h3' : (if k = g' then some (2 * i + 3) else own k) ≠ none := h3
        rwa [if_neg e] at h3'
      exact .inl this
  · simpa [icells_append, icells] using hown
  · intro k hk
    have : k = g' := by simpa [Value.ownBlock] using hk.symm
    subst this
    exact if_pos rfl

theorem item_info : (Try.prog.info? 54).map (fun i => (i.zero.isSome, i.zero.map (fun z => z.cells.size), i.size, i.bytes)) = some (true, some 3, 3, 24) := by kernel_rfl
theorem ptr_info : (Try.prog.info? 69).map (fun i => (i.zero.isSome, i.zero.map (fun z => z.cells.size), i.size, i.bytes)) = some (true, some 1, 1, 8) := by kernel_rfl
theorem int_info : (Try.prog.info? 3).map (fun i => (i.zero.isSome, i.zero.map (fun z => z.cells.size), i.size, i.bytes)) = some (true, some 1, 1, 8) := by kernel_rfl
theorem info_open {P : Program} {t n s b : Nat} (h : (P.info? t).map (fun i => (i.zero.isSome, i.zero.map (fun z => z.cells.size), i.size, i.bytes)) = some (true, some n, s, b)) :
    ∃ i z, P.info? t = some i ∧ i.zero = some z ∧ i.size = s ∧ i.bytes = b ∧ z.cells.size = n := by
  cases hi : P.info? t with
  | none => rw [hi] at h; cases h
  | some i =>
    rw [hi] at h
    simp at h
    obtain ⟨h1, h2, h3, h4⟩ := h
    cases hz : i.zero with
    | none => rw [hz] at h1; cases h1
    | some z =>
      rw [hz] at h2
      obtain ⟨a, ha, hb⟩ := h2
      injection ha with ha
      subst ha
      exact ⟨i, z, rfl, hz, h3, h4, hb⟩

set_option maxHeartbeats 400000 in
theorem alloc_ok (w : World) (own : Nat → Option Nat) (t g cap : Nat) (cs : Array Value) (M : Tr) (i sz al U : Int) (n : Node) (b : Nat) (A : Option Addr) (c : Nat) (h : TreeAt w own t g cap cs M)
    (hi : M[i.toNat]? = some (some n)) (hc : cs[i.toNat]? = some (.pointer (some ⟨b, 0, none⟩))) (hb : w.heap[b]? = some (NodeCells n (.slice A n.l.length c))) (hl : ItemsAt w own i.toNat (.slice A n.l.length c) n.l) (hlen : n.l.length < 200)
    (hG : Calls Try.prog 36 #[.pointer (some ⟨t, 0, none⟩), .int .i64 i, .int .i64 sz, .int .i64 al] w fun e w' => e = .returned (.tuple #[.pointer (some ⟨b, 0, none⟩), .int .i64 U, .int .i64 0]) ∧ ∃ k, w' = w.drewN k) :
    Calls Try.prog 16 #[.pointer (some ⟨t, 0, none⟩), .int .i64 i, .int .i64 sz, .int .i64 al] w fun e w' => e = .returned (.tuple #[.int .i64 U, .int .i64 0]) ∧
      ∃ own', TreeAt w' own' t g cap cs (M.set i.toNat (some { n with l := n.l ++ [⟨U, sz, -1⟩] })) ∧ Keeps own own' w w' := by
  have H := Lib.hid hG
  obtain ⟨i0, z0, hi0, hz0, hz1, hz2, hz3⟩ := info_open item_info
  obtain ⟨hob, _⟩ := nodeOwn h hi hc
  obtain ⟨c0, c1, c2, c3, c4, cf⟩ := nodeOpen hb
  have hbl := lt_of_heap hb
  have hne : (Value.slice A n.l.length c).ownBlock ≠ some b := fun e => by have := hl.2 b e; rw [hob] at this; simp at this
  have HP := fun w2 w1 g' cap' => Lib.hid (@push_item w w2 w1 own t g cap cs M i.toNat b n (.slice A n.l.length c) ⟨U, sz, -1⟩ g' cap' h hi hc hb hl)
  have hrow := hl.1
  clear hG hl h hc hi hob
  generalize n.l.length = L at *
  go_enter Try.func16, Try.ntmps16
  go_wp2_with (first | (go_at_call 36; refine H.out.mono ?_; rintro e w' ⟨rfl, k, rfl⟩) |
    (at_builtin; refine wpList_append_lies _ rfl (.tmp 27) (.tmp 31) _ rfl 0 54 i0 z0 3 24 Try.underlying33 hi0 hz0 hz1 hz2 hz3 (by omega) (.slice A L c) L (icells n.l) rfl (hrow.alloc _) ⟨w.heap.size, 0, none⟩ 1 1 (Item.cells ⟨U, sz, -1⟩) rfl rfl (World.news_of_block (heap_alloc_new _ _)) (by simp [Item.cells, Value.oneCell']) (by omega) (by unfold maxLen; omega) (by omega) (Nat.zero_le _) (w.heap.size + 1) (by simp) ?_
     intro g' cap' w1 hown1 hgrow1 hat1 hlt1
     have q1 : w1.cell? ⟨b, 3, none⟩ = some (.slice A L c) := (hgrow1.cell_far ⟨b, 3, none⟩ (by simp; omega) hne.symm).trans ((World.cell?_alloc_lt _ _ _ hbl).trans c3)
     have q2 : w1.frozen? ⟨b, 3, none⟩ = false := (hgrow1.frozen_far ⟨b, 3, none⟩ (by simp; omega) hne.symm).trans ((World.frozen?_alloc_old _ _ _ (Nat.ne_of_lt hbl)).trans (cf 3))))
  go_ret2
  refine ⟨rfl, (HP _ w1 g' cap').out ((below_drewN (Below.refl _ w) k).alloc (Nat.le_refl _) _) hown1 hgrow1 ?_⟩
  exact hat1.elim .inl (fun e => .inr (by simp [e]))

/-- The errors of give go through. -/
theorem alloc_err (w : World) (t : Nat) (i sz al E : Int) (hE : E ≠ 0)
    (hG : Calls Try.prog 36 #[.pointer (some ⟨t, 0, none⟩), .int .i64 i, .int .i64 sz, .int .i64 al] w fun e w' => e = .returned (.tuple #[.pointer none, .int .i64 0, .int .i64 E]) ∧ ∃ k, w' = w.drewN k) :
    Calls Try.prog 16 #[.pointer (some ⟨t, 0, none⟩), .int .i64 i, .int .i64 sz, .int .i64 al] w fun e w' => e = .returned (.tuple #[.int .i64 0, .int .i64 E]) ∧ ∃ k, w' = w.drewN k := by
  have H := Lib.hid hG
  clear hG
  have hE' : (E != 0) = true := by rw [bne_iff_ne]; exact hE
  clear hE
  go_enter Try.func16, Try.ntmps16
  go_wp2_with (first | (go_at_call 36; refine H.out.mono ?_; rintro e w' ⟨rfl, k, rfl⟩))
  go_ret2
  exact ⟨rfl, _, rfl⟩

theorem Tree.drewN {w : World} {own : Nat → Option Nat} {t : Nat} {M : Tr} (h : Tree w own t M) (k : Nat) : Tree (w.drewN k) own t M := h.below (below_drewN (Below.refl _ w) k)
theorem Keeps.drewN (own : Nat → Option Nat) (w : World) (k : Nat) : Keeps own own w (w.drewN k) := .of_below own (below_drewN (Below.refl _ w) k)

/-- What a call that works on a tree answers, and leaves. -/
def Does (w : World) (own : Nat → Option Nat) (t : Nat) (M' : Tr) (v : Value) (e : Ending) (w' : World) : Prop :=
  e = .returned v ∧ ∃ own', Tree w' own' t M' ∧ Keeps own own' w w'

theorem addItem_eq {M : Tr} {i : Nat} {n : Node} (h : M[i]? = some (some n)) (x : Item) : addItem M i x = M.set i (some { n with l := n.l ++ [x] }) := by
  simp [addItem, h]

theorem alloc_tree (w : World) (own : Nat → Option Nat) (t : Nat) (M : Tr) (i sz al : Int) (h : Tree w own t M) (hg : Good M) :
    Calls Try.prog 16 #[.pointer (some ⟨t, 0, none⟩), .int .i64 i, .int .i64 sz, .int .i64 al] w
      (Does w own t (alloc M i sz al).1 (.tuple #[.int .i64 (alloc M i sz al).2.1, .int .i64 (alloc M i sz al).2.2])) := by
  obtain ⟨g, cap, cs, h⟩ := h
  have hG := give_tree w own t g cap cs M i sz al h hg
  by_cases hE : (give M i sz al).2 = 0
  · have hal : alloc M i sz al = (addItem M i.toNat ⟨(give M i sz al).1, sz, -1⟩, (give M i sz al).1, 0) := if_pos hE
    rw [hal]
    rcases find_cases w own t g cap cs M i h hg with ⟨hf, _⟩ | ⟨n, b, A, c, hf, h0, hM, hc, hob, hb, hl, hok, _⟩
    · have : (give M i sz al).2 = 4 := by simp [give, hf]
      omega
    · have hlen : n.l.length < 200 := by
        have := hok.len
        have : ¬ n.l.length = 200 := fun e => by
          simp only [give, hf] at hE
          split at hE
          · simp at hE
          · rw [if_pos (.inr e)] at hE; simp at hE
        omega
      refine (alloc_ok w own t g cap cs M i sz al (give M i sz al).1 n b A c h hM hc hb hl hlen (hG.mono ?_)).mono ?_
      · rintro e w' ⟨⟨h1, _⟩ | ⟨n', b', iv', h1, _, _, h4, _, _, _, h5, _, _, _, h6⟩, hk⟩
        · exact absurd hE h1
        · rw [hc] at h4
          injection h4 with h4; injection h4 with h4; injection h4 with h4; injection h4 with h4
          subst h4
          exact ⟨by rw [h6, h5], hk⟩
      · rintro e w' ⟨rfl, own', hT, hK⟩
        exact ⟨rfl, own', ⟨g, cap, cs, by rw [addItem_eq hM]; exact hT⟩, hK⟩
  · have hal : alloc M i sz al = (M, 0, (give M i sz al).2) := if_neg hE
    rw [hal]
    refine (alloc_err w t i sz al _ hE (hG.mono ?_)).mono ?_
    · rintro e w' ⟨⟨_, h1⟩ | ⟨n', b', iv', h1, _, _, h4, _, _, _, h5, _⟩, hk⟩
      · exact ⟨h1, hk⟩
      · exact absurd (by rw [h5]) hE
    · rintro e w' ⟨rfl, k, rfl⟩
      exact ⟨rfl, own, Tree.drewN ⟨g, cap, cs, h⟩ k, .drewN own w k⟩
end Ne
end Go.Proofs.Ytllmddhahpegmaa
