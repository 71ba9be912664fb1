/- The walks of give, New, Mark, Room, Alloc. -/
import Derived.Test.YtllmddhahpegmaaA
import Derived.Test.YtllmddhahpegmaaBits
import Derived.Test.YtllmddhahpegmaaPlain4
import Derived.Lib.Hide
namespace Go.Proofs.Ytllmddhahpegmaa
open Go.RowKit
namespace Ne
theorem small_of {t : Tr} {i : Nat} {n : Node} (h : NodeOk t i n) : Small n.l := fun x hx => by
  have := h.seq.mem x hx
  have := h.a0
  have := h.top
  omega

/-- What give returns. -/
def Given (w : World) (own : Nat → Option Nat) (cs : Array Value) (M : Tr) (i sz al : Int) (e : Ending) : Prop :=
  ((give M i sz al).2 ≠ 0 ∧ e = .returned (.tuple #[.pointer none, .int .i64 0, .int .i64 (give M i sz al).2])) ∨
  ∃ n b iv, find M i = some n ∧ 0 ≤ i ∧ M[i.toNat]? = some (some n) ∧ cs[i.toNat]? = some (.pointer (some ⟨b, 0, none⟩)) ∧ own b = some (2 * i.toNat + 2) ∧ w.heap[b]? = some (NodeCells n iv) ∧ ItemsAt w own i.toNat iv n.l ∧
    give M i sz al = (up n.fin al, 0) ∧ badArg sz al = false ∧ up n.fin al + sz ≤ n.a + n.s ∧ n.l.length < 200 ∧ 
    e = .returned (.tuple #[.pointer (some ⟨b, 0, none⟩), .int .i64 (up n.fin al), .int .i64 0])

theorem badArg_yes {sz al : Int} (h : badArg sz al = true) : (((sz < 1 ∨ 65536 < sz) ∨ al < 1) ∨ 4096 < al) ∨ (1 ≤ al ∧ al ≤ 4096 ∧ (bits .and .i64 al (al - 1) != 0) = true) := by
  by_cases h1 : ((sz < 1 ∨ 65536 < sz) ∨ al < 1) ∨ 4096 < al
  · exact .inl h1
  · refine .inr ⟨by omega, by omega, ?_⟩
    rw [align_test al (by omega) (by omega)]
    unfold badArg at h
    simp only [Bool.or_eq_true, decide_eq_true_eq] at h
    rcases h with (h | h) | h
    · omega
    · omega
    · exact h

set_option maxHeartbeats 400000 in
theorem give_err (w : World) (t : Nat) (i sz al : Int) 
   (hc : Calls Try.prog 37 #[.pointer (some ⟨t, 0, none⟩), .int .i64 i] w fun e w' => e = .returned (.tuple #[.pointer none, .int .i64 4]) ∧ w = w') :
    Calls Try.prog 36 #[.pointer (some ⟨t, 0, none⟩), .int .i64 i, .int .i64 sz, .int .i64 al] w fun e w' => e = .returned (.tuple #[.pointer none, .int .i64 0, .int .i64 4]) ∧ ∃ k, w' = w.drewN k := by
  have H := Lib.hid hc; clear hc
  go_enter Try.func36, Try.ntmps36
  go_wp2_with (first | (go_at_call 37; refine H.out.mono ?_; rintro e w' ⟨rfl, rfl⟩))
  go_ret3
  exact ⟨rfl, 0, rfl⟩

set_option maxHeartbeats 400000 in
theorem give_bad (w : World) (t : Nat) (i sz al : Int) (b : Nat)
   (hc : Calls Try.prog 37 #[.pointer (some ⟨t, 0, none⟩), .int .i64 i] w fun e w' => e = .returned (.tuple #[.pointer (some ⟨b, 0, none⟩), .int .i64 0]) ∧ w = w') (hb : badArg sz al = true) :
    Calls Try.prog 36 #[.pointer (some ⟨t, 0, none⟩), .int .i64 i, .int .i64 sz, .int .i64 al] w fun e w' => e = .returned (.tuple #[.pointer none, .int .i64 0, .int .i64 2]) ∧ ∃ k, w' = w.drewN k := by
  have H := Lib.hid hc; clear hc
  rcases badArg_yes hb with (((h | h) | h) | h) | ⟨h1, h2, h3⟩
  all_goals
    clear hb
    go_enter Try.func36, Try.ntmps36
    go_wp2_with (first | (go_at_call 37; refine H.out.mono ?_; rintro e w' ⟨rfl, rfl⟩))
  all_goals
    go_ret3
    exact ⟨rfl, 0, rfl⟩

set_option maxHeartbeats 400000 in
theorem give_ok (w : World) (t : Nat) (i sz al : Int) (b : Nat) (n : Node) (v : Value) (M : Tr) (h : w.heap[b]? = some (NodeCells n v)) (hr : w.ownsRow 0 54 3 v n.l.length (icells n.l)) (ho : NodeOk M i.toNat n)
   (hc : Calls Try.prog 37 #[.pointer (some ⟨t, 0, none⟩), .int .i64 i] w fun e w' => e = .returned (.tuple #[.pointer (some ⟨b, 0, none⟩), .int .i64 0]) ∧ w = w') (hb : badArg sz al = false) :
    Calls Try.prog 36 #[.pointer (some ⟨t, 0, none⟩), .int .i64 i, .int .i64 sz, .int .i64 al] w fun e w' => 
      e = .returned (if n.a + n.s < up n.fin al + sz ∨ n.l.length = 200 then .tuple #[.pointer none, .int .i64 0, .int .i64 5] else .tuple #[.pointer (some ⟨b, 0, none⟩), .int .i64 (up n.fin al), .int .i64 0]) ∧ ∃ k, w' = w.drewN k := by
  obtain ⟨g1, g2, g3, g4, g5⟩ := badArg_no hb
  have hs := small_of ho
  have hl := ho.len
  have hf := ho.fin
  have ha := ho.a0
  have htop := ho.top
  have hs1 := ho.s1
  obtain ⟨c0, c1, c2, c3, c4, _⟩ := nodeOpen h
  have ht := align_test al g3 g4
  rw [g5] at ht
  have hu := up_bits n.fin al (by omega) (by omega) g5
  have hu1 := up_ge n.fin al g3
  have hu2 := up_le n.fin al g3
  have H := Lib.hid hc
  have HE := Lib.hid (end_ok w b n v h hr hs hl)
  generalize n.fin = F at *
  generalize hU : up F al = U at *
  clear hb g5 hs ho h hU hc
  have hlen : ∃ A c, v = .slice A n.l.length c := by
    rcases hr.2 with ⟨rfl, h0⟩ | ⟨g, cap, cur, rfl, _⟩
    · exact ⟨none, 0, by rw [h0]⟩
    · exact ⟨_, _, rfl⟩
  obtain ⟨A, c, rfl⟩ := hlen
  clear hr
  generalize n.l.length = L at *
  by_cases hk : n.a + n.s < U + sz
  · rw [if_pos (.inl hk)]
    go_enter Try.func36, Try.ntmps36
    go_wp2_with (first | (go_at_call 37; refine H.out.mono ?_; rintro e w' ⟨rfl, rfl⟩) | (go_at_call 42; refine HE.out.mono ?_; rintro e w' ⟨rfl, k, rfl⟩))
    go_quiet (fail)
    go_wp2
    go_ret3
    exact ⟨rfl, _, by rw [World.drewN_drewN]⟩
  · have hk' : decide (n.a + n.s < U + sz) = false := by simpa using hk
    by_cases h200 : L = 200
    · have h2' : ((L : Int) == 200) = true := by rw [beq_iff_eq]; omega
      rw [if_pos (.inr h200)]
      clear h200
      go_enter Try.func36, Try.ntmps36
      go_wp2_with (first | (go_at_call 37; refine H.out.mono ?_; rintro e w' ⟨rfl, rfl⟩) | (go_at_call 42; refine HE.out.mono ?_; rintro e w' ⟨rfl, k, rfl⟩))
      go_quiet (fail)
      go_wp2
      go_ret3
      exact ⟨rfl, _, by rw [World.drewN_drewN]⟩
    · have h2' : ((L : Int) == 200) = false := by rw [beq_eq_false_iff_ne]; omega
      rw [if_neg (by omega)]
      clear h200
      go_enter Try.func36, Try.ntmps36
      go_wp2_with (first | (go_at_call 37; refine H.out.mono ?_; rintro e w' ⟨rfl, rfl⟩) | (go_at_call 42; refine HE.out.mono ?_; rintro e w' ⟨rfl, k, rfl⟩))
      go_quiet (fail)
      go_wp2
      go_ret3
      exact ⟨rfl, _, by rw [World.drewN_drewN]⟩

theorem give_tree (w : World) (own : Nat → Option Nat) (t g cap : Nat) (cs : Array Value) (M : Tr) (i sz al : Int) (h : TreeAt w own t g cap cs M) (hg : Good M) :
    Calls Try.prog 36 #[.pointer (some ⟨t, 0, none⟩), .int .i64 i, .int .i64 sz, .int .i64 al] w fun e w' => Given w own cs M i sz al e ∧ ∃ k, w' = w.drewN k := by
  have hF := find_tree w own t g cap cs M i h ⟨hg.pos, hg.len⟩
  cases hfi : find M i with
  | none =>
    refine (give_err w t i sz al (hF.mono ?_)).mono ?_
    · rintro e w' ⟨h1 | ⟨n, b, iv, h1, _⟩, rfl⟩
      · exact ⟨h1.2, rfl⟩
      · rw [hfi] at h1; cases h1
    · rintro e w' ⟨rfl, hk⟩
      have : give M i sz al = (0, 4) := by simp [give, hfi]
      exact ⟨.inl (by rw [this]; exact ⟨by simp, rfl⟩), hk⟩
  | some n =>
    have h0 : 0 ≤ i ∧ M[i.toNat]? = some (some n) := by
      unfold find at hfi
      split at hfi
      · cases hfi
      · refine ⟨by omega, ?_⟩
        cases e : M[i.toNat]? with
        | none => rw [e] at hfi; cases hfi
        | some o => rw [e] at hfi; simp at hfi; rw [hfi]
    obtain ⟨v, hv, b, iv, rfl, hob, hb, hl⟩ := h.node _ _ h0.2
    have hF' : Calls Try.prog 37 #[.pointer (some ⟨t, 0, none⟩), .int .i64 i] w fun e w' => e = .returned (.tuple #[.pointer (some ⟨b, 0, none⟩), .int .i64 0]) ∧ w = w' := by
      refine hF.mono ?_
      rintro e w' ⟨h1 | ⟨n', b', iv', h1, h2, h3, h4, _, _, _, h5⟩, rfl⟩
      · rw [hfi] at h1; cases h1.1
      · rw [hv] at h4
        injection h4 with h4; injection h4 with h4; injection h4 with h4; injection h4 with h4
        subst h4
        exact ⟨h5, rfl⟩
    by_cases hbad : badArg sz al = true
    · refine (give_bad w t i sz al b hF' hbad).mono ?_
      rintro e w' ⟨rfl, hk⟩
      have : give M i sz al = (0, 2) := by simp [give, hfi, hbad]
      exact ⟨.inl (by rw [this]; exact ⟨by simp, rfl⟩), hk⟩
    · have hbad : badArg sz al = false := by simpa using hbad
      refine (give_ok w t i sz al b n iv M hb hl.1 (hg.node _ _ h0.2) hF' hbad).mono ?_
      rintro e w' ⟨rfl, hk⟩
      refine ⟨?_, hk⟩
      by_cases hc : n.a + n.s < up n.fin al + sz ∨ n.l.length = 200
      · have : give M i sz al = (0, 5) := by simp only [give, hfi, hbad]; simp [hc]
        exact .inl (by rw [this]; exact ⟨by simp, by rw [if_pos hc]⟩)
      · have : give M i sz al = (up n.fin al, 0) := by simp only [give, hfi, hbad]; simp [hc]
        have hlen := (hg.node _ _ h0.2).len
        exact .inr ⟨n, b, iv, hfi, h0.1, h0.2, hv, hob, hb, hl, this, hbad, by omega, by omega, by rw [if_neg hc]⟩

set_option maxHeartbeats 400000 in
theorem new_ok (n : Int) (w : World) (h1 : 1 ≤ n) (h2 : n ≤ 65536) :
    Calls Try.prog 25 #[.int .i64 n] w fun e w' => e = .returned (.tuple #[.pointer (some ⟨w.heap.size+2, 0, none⟩), .int .i64 0]) ∧ w' = 
      ((w.alloc (.cells #[.int .i64 (-1), .int .i64 0, .int .i64 n, .slice none 0 0, .bool false] 35)).alloc (.cells #[.pointer (some ⟨w.heap.size, 0, none⟩)] 69)).alloc (.cells #[.slice (some ⟨w.heap.size+1, 0, none⟩) 1 1] 68) := by
  go_enter Try.func25, Try.ntmps25
  go_wp2
  go_ret2
  exact ⟨rfl, rfl⟩

set_option maxHeartbeats 400000 in
theorem new_bad (n : Int) (w : World) (h1 : n < 1 ∨ 65536 < n) :
    Calls Try.prog 25 #[.int .i64 n] w fun e w' => e = .returned (.tuple #[.pointer none, .int .i64 7]) ∧ w' = w := by
  rcases h1 with h1 | h1
  all_goals
    go_enter Try.func25, Try.ntmps25
    go_wp2
    go_ret2
    exact ⟨rfl, rfl⟩


theorem heapAlloc (w : World) (o : Obj) (k : Nat) : (w.alloc o).heap[k]? = if k = w.heap.size then some o else w.heap[k]? := by
  show (w.heap.push o)[k]? = _
  rw [Array.getElem?_push]

theorem new_tree (n : Int) (w : World) (h1 : 1 ≤ n) (h2 : n ≤ 65536) :
    Calls Try.prog 25 #[.int .i64 n] w fun e w' => ∃ own t, e = .returned (.tuple #[.pointer (some ⟨t, 0, none⟩), .int .i64 0]) ∧ w.heap.size ≤ t ∧ Tree w' own t (newTr n) ∧ Below w.heap.size w w' ∧ Fresh own w' ∧ (∀ k, k < w.heap.size → own k = none) := by
  refine (new_ok n w h1 h2).mono ?_
  rintro e w' ⟨rfl, rfl⟩
  refine ⟨fun k => if k = w.heap.size then some 2 else if k = w.heap.size + 1 then some 1 else if k = w.heap.size + 2 then some 0 else none, w.heap.size + 2, rfl, by omega, ?_, ?_, ?_, ?_⟩
  · refine ⟨w.heap.size + 1, 1, #[.pointer (some ⟨w.heap.size, 0, none⟩)], by simp, by simp, ?_, ?_, rfl, by simp [newTr], by simp [maxLen], ?_⟩
    · rw [heapAlloc, if_pos (by simp)]; rfl
    · rw [heapAlloc, if_neg (by simp), heapAlloc, if_pos (by simp)]
    · intro i o hi
      have : i = 0 ∧ o = some ⟨-1, 0, n, []⟩ := by
        cases i with
        | zero => simp [newTr] at hi; exact ⟨rfl, hi.symm⟩
        | succ i => simp [newTr] at hi
      obtain ⟨rfl, rfl⟩ := this
      refine ⟨_, rfl, w.heap.size, .slice none 0 0, rfl, by simp, ?_, World.ownsRow_nil _ _ _ _, by simp [Value.ownBlock]⟩
      rw [heapAlloc, if_neg (by simp; omega), heapAlloc, if_neg (by simp), heapAlloc, if_pos rfl]; rfl
  · exact (((Below.refl _ _).alloc (Nat.le_refl _) _).alloc (by simp) _).alloc (by simp; omega) _
  · intro k hk
    have hk' : (if k = w.heap.size then some 2 else if k = w.heap.size + 1 then some 1 else if k = w.heap.size + 2 then some 0 else none) ≠ none := hk
    simp only [World.size_alloc]
    split at hk'
    · omega
    · split at hk'
      · omega
      · split at hk'
        · omega
        · exact absurd rfl hk'
  · intro k hk
    show (if k = w.heap.size then _ else if k = w.heap.size + 1 then _ else if k = w.heap.size + 2 then _ else none) = none
    rw [if_neg (by omega), if_neg (by omega), if_neg (by omega)]

set_option maxHeartbeats 400000 in
theorem mark_any (w : World) (t : Nat) (i : Int) (x : Option Addr) (E : Int) (A : Option Addr) (L c : Nat) (_ : L ≤ 200)
   (hc : Calls Try.prog 37 #[.pointer (some ⟨t, 0, none⟩), .int .i64 i] w fun e w' => e = .returned (.tuple #[.pointer x, .int .i64 E]) ∧ w = w')
   (h : (E = 4) ∨ (E = 0 ∧ ∃ b, x = some ⟨b, 0, none⟩ ∧ w.cell? ⟨b, 3, none⟩ = some (.slice A L c))) :
    Calls Try.prog 19 #[.pointer (some ⟨t, 0, none⟩), .int .i64 i] w fun e w' => e = .returned (.tuple #[.int .i64 (if E = 0 then L else 0), .int .i64 E]) ∧ w = w' := by
  have H := Lib.hid hc; clear hc
  rcases h with rfl | ⟨rfl, b, rfl, h⟩
  all_goals
    go_enter Try.func19, Try.ntmps19
    go_wp2_with (first | (go_at_call 37; refine H.out.mono ?_; rintro e w' ⟨rfl, rfl⟩))
    go_ret2
    exact ⟨rfl, rfl⟩

theorem itemsLen {w : World} {own : Nat → Option Nat} {i : Nat} {v : Value} {l : List Item} (h : ItemsAt w own i v l) : ∃ A c, v = .slice A l.length c := by
  rcases h.1.2 with ⟨rfl, h0⟩ | ⟨g, cap, cur, rfl, _⟩
  · exact ⟨none, 0, by rw [h0]⟩
  · exact ⟨_, _, rfl⟩

theorem mark_tree (w : World) (own : Nat → Option Nat) (t g cap : Nat) (cs : Array Value) (M : Tr) (i : Int) (h : TreeAt w own t g cap cs M) (hg : Good M) :
    Calls Try.prog 19 #[.pointer (some ⟨t, 0, none⟩), .int .i64 i] w fun e w' => e = .returned (.tuple #[.int .i64 (mark M i).1, .int .i64 (mark M i).2]) ∧ w = w' := by
  have hF := find_tree w own t g cap cs M i h ⟨hg.pos, hg.len⟩
  cases hfi : find M i with
  | none =>
    refine (mark_any w t i none 4 none 0 0 (by omega) (hF.mono ?_) (.inl rfl)).mono ?_
    · rintro e w' ⟨h1 | ⟨n, b, iv, h1, _⟩, rfl⟩
      · exact ⟨h1.2, rfl⟩
      · rw [hfi] at h1; cases h1
    · rintro e w' ⟨rfl, rfl⟩
      exact ⟨by simp [mark, hfi], rfl⟩
  | some n =>
    have h0 : 0 ≤ i ∧ M[i.toNat]? = some (some n) := by
      unfold find at hfi
      split at hfi
      · cases hfi
      · refine ⟨by omega, ?_⟩
        cases e : M[i.toNat]? with
        | none => rw [e] at hfi; cases hfi
        | some o => rw [e] at hfi; simp at hfi; rw [hfi]
    obtain ⟨v, hv, b, iv, rfl, hob, hb, hl⟩ := h.node _ _ h0.2
    obtain ⟨A, c, rfl⟩ := itemsLen hl
    refine (mark_any w t i (some ⟨b, 0, none⟩) 0 A n.l.length c (hg.node _ _ h0.2).len (hF.mono ?_) (.inr ⟨rfl, b, rfl, (nodeOpen hb).2.2.2.1⟩)).mono ?_
    · rintro e w' ⟨h1 | ⟨n', b', iv', h1, h2, h3, h4, _, _, _, h5⟩, rfl⟩
      · rw [hfi] at h1; cases h1.1
      · rw [hv] at h4
        injection h4 with h4; injection h4 with h4; injection h4 with h4; injection h4 with h4
        subst h4
        exact ⟨h5, rfl⟩
    · rintro e w' ⟨rfl, rfl⟩
      exact ⟨by simp [mark, hfi], rfl⟩
end Ne
end Go.Proofs.Ytllmddhahpegmaa
