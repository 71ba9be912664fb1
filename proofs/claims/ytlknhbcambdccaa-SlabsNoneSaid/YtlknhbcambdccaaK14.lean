/- Owner, Largest and Room of the specification. Largest and Room of the specification. Drop of the specification. -/
import Derived.Test.YtlknhbcambdccaaK13
namespace Go.Proofs.Ytlknhbcambdccaa
open Go.RowKit
namespace Bu

theorem find_idx {α : Type} (f : α → Bool) : ∀ L : List α, L.find? f = (L.findIdx? f).bind fun i => L[i]? := by
  intro L
  induction L with
  | nil => rfl
  | cons x L ih =>
    rw [List.find?_cons, List.findIdx?_cons]
    cases h : f x with
    | true => simp
    | false =>
      simp only [Bool.false_eq_true, if_false]
      rw [ih]
      cases L.findIdx? f <;> rfl

def OwnV : Option Blk → Value
  | some x => .tuple #[.agg #[.int .i64 (x.1 : Int), .int .i64 (x.2 : Int)], .int .i64 0]
  | none => .tuple #[.agg #[.int .i64 0, .int .i64 0], .int .i64 4]

theorem givenI_owner {L : List Blk} {p : Nat} : (givenI L p = -1 ∧ ownerB L p = none) ∨ ∃ i x, givenI L p = ((i : Nat) : Int) ∧ L[i]? = some x ∧ ownerB L p = some x := by
  unfold givenI ownerB
  rw [find_idx]
  cases e : L.findIdx? (hasP · p) with
  | none => exact .inl ⟨rfl, rfl⟩
  | some i =>
    obtain ⟨h1, _⟩ := List.findIdx?_eq_some_iff_getElem.1 e
    exact .inr ⟨i, L[i], rfl, List.getElem?_eq_getElem h1, List.getElem?_eq_getElem h1⟩

theorem blk_new (V : World) (x y : Value) (T : TypeId) : (V.alloc (.cells #[x, y] T)).heap[V.heap.size]? = some (.cells #[x, y] T (0, 0)) := by rw [heapAlloc, if_pos rfl]

set_option maxRecDepth 100000 in
set_option maxHeartbeats 2000000 in
theorem ownerR_bad (w : World) (N : Nat) (A : Option Addr) (c : Nat) (L : List Blk) (page : Int) (hN : N ≤ 10) (hp : page < 0 ∨ ((2 ^ N : Nat) : Int) ≤ page) :
    Calls Try.prog 90 #[sv N A L.length c, .int .i64 page] w fun e w' => e = .returned (.tuple #[.agg #[.int .i64 0, .int .i64 0], .int .i64 7]) ∧ Below w.heap.size w w' := by
  obtain ⟨b1, b2⟩ := state_cells w (.int .i64 (N : Int)) (.slice A L.length c) 46
  have hb0 := below_box w (.cells #[.int .i64 (N : Int), .slice A L.length c] 46)
  obtain ⟨W1, hW1⟩ : ∃ W1, W1 = w.alloc (.cells #[.int .i64 (N : Int), .slice A L.length c] 46) := ⟨_, rfl⟩
  rw [← hW1] at b1 b2 hb0
  have hs1 : W1.heap.size = w.heap.size + 1 := by rw [hW1]; simp
  have hn := blk_new W1 (.int .i64 0) (.int .i64 0) 126
  obtain ⟨W2, hW2⟩ : ∃ W2, W2 = W1.alloc (.cells #[.int .i64 0, .int .i64 0] 126) := ⟨_, rfl⟩
  rw [← hW2, hs1] at hn
  have hb1 : Below w.heap.size w W2 := by rw [hW2]; exact hb0.alloc (by omega) _
  have hbx : Below W1.heap.size W1 W2 := by rw [hW2]; exact below_box _ _
  replace b1 := cell_keep2 hbx b1
  replace b2 := cell_keep2 hbx b2
  have h4 := two_cells hn
  obtain ⟨c1, c2, f1, f2⟩ := h4
  have h5 := two_cells (setCell_at _ _ 1 _ _ (.int .i64 0) (setCell_at _ _ 0 _ _ (.int .i64 0) hn))
  have HW := Lib.hid (And.intro hW1 hW2)
  have HB := Lib.hid hb1
  have H5 := Lib.hid h5
  have HZ := Lib.hid (size_ok N W2 (by omega))
  obtain ⟨M, hM⟩ : ∃ M : Nat, M = 2 ^ N := ⟨_, rfl⟩
  rw [← hM] at HZ hp
  clear hW1 hW2 hb0 hb1 hbx hs1 hn h5 hM
  rcases hp with hp | hp
  · go_enter Try.func90, Try.ntmps90
    go_wp2_with (fail)
    rw [← HW.out.1, ← HW.out.2]
    go_wp2
    obtain ⟨q1, q2, _, _⟩ := H5.out
    refine bodyPost_ret (v := .tuple #[.agg #[.int .i64 0, .int .i64 0], .int .i64 7]) (by simp [results, Try.results90, go_sem, q1, q2, c1, c2]) rfl ⟨rfl, ?_⟩
    first | exact HB.out | exact ((HB.out.setCell (p := ⟨w.heap.size + 1, 0, none⟩) (by show w.heap.size ≤ w.heap.size + 1; omega) _).setCell (p := ⟨w.heap.size + 1, 1, none⟩) (by show w.heap.size ≤ w.heap.size + 1; omega) _)
  · have hp0 : ¬ page < 0 := by omega
    go_enter Try.func90, Try.ntmps90
    go_wp2_with (fail)
    rw [← HW.out.1, ← HW.out.2]
    go_wp2_with (go_at_call 87; refine HZ.out.mono ?_; rintro e w' ⟨rfl, rfl⟩)
    obtain ⟨q1, q2, _, _⟩ := H5.out
    refine bodyPost_ret (v := .tuple #[.agg #[.int .i64 0, .int .i64 0], .int .i64 7]) (by simp [results, Try.results90, go_sem, q1, q2, c1, c2]) rfl ⟨rfl, ?_⟩
    first | exact HB.out | exact ((HB.out.setCell (p := ⟨w.heap.size + 1, 0, none⟩) (by show w.heap.size ≤ w.heap.size + 1; omega) _).setCell (p := ⟨w.heap.size + 1, 1, none⟩) (by show w.heap.size ≤ w.heap.size + 1; omega) _)

set_option maxRecDepth 100000 in
set_option maxHeartbeats 2000000 in
theorem ownerR_ok (w : World) (N : Nat) (A : Option Addr) (c : Nat) (L : List Blk) (page : Nat) (hN : N ≤ 10) (h : BlkAt w A c L) (hS : Small L) (hp : page < 2 ^ N) :
    Calls Try.prog 90 #[sv N A L.length c, .int .i64 (page : Int)] w fun e w' => e = .returned (OwnV (ownerB L page)) ∧ Below w.heap.size w w' := by
  have hlt : 2 ^ N ≤ 1024 := by
    have : 2 ^ N ≤ 2 ^ 10 := Nat.pow_le_pow_right (by omega) hN
    omega
  obtain ⟨b1, b2⟩ := state_cells w (.int .i64 (N : Int)) (.slice A L.length c) 46
  have hb0 := below_box w (.cells #[.int .i64 (N : Int), .slice A L.length c] 46)
  obtain ⟨W1, hW1⟩ : ∃ W1, W1 = w.alloc (.cells #[.int .i64 (N : Int), .slice A L.length c] 46) := ⟨_, rfl⟩
  rw [← hW1] at b1 b2 hb0
  have hs1 : W1.heap.size = w.heap.size + 1 := by rw [hW1]; simp
  have hn := blk_new W1 (.int .i64 0) (.int .i64 0) 126
  obtain ⟨W2, hW2⟩ : ∃ W2, W2 = W1.alloc (.cells #[.int .i64 0, .int .i64 0] 126) := ⟨_, rfl⟩
  rw [← hW2, hs1] at hn
  have hs2 : W2.heap.size = w.heap.size + 2 := by rw [hW2]; simp [hs1]
  have hb1 : Below w.heap.size w W2 := by rw [hW2]; exact hb0.alloc (by omega) _
  have hbx : Below W1.heap.size W1 W2 := by rw [hW2]; exact below_box _ _
  replace b1 := cell_keep2 hbx b1
  replace b2 := cell_keep2 hbx b2
  have h4 := two_cells hn
  obtain ⟨c1, c2, f1, f2⟩ := h4
  have HW := Lib.hid (And.intro hW1 hW2)
  have hZ := size_ok N W2 (by omega)
  obtain ⟨M, hM⟩ : ∃ M : Nat, M = 2 ^ N := ⟨_, rfl⟩
  rw [← hM] at hZ hp hlt
  have HZ := Lib.hid hZ
  have hG := given_ok W2 N A c L page (h.below hb1) hS (by omega)
  have e1 : (page : Int) < (M : Int) := by omega
  have e0 : (0 : Int) ≤ (page : Int) := by omega
  have HB := Lib.hid (And.intro hb1 (And.intro hs2 (And.intro (h.below hb1) hn)))
  rcases @givenI_owner L page with ⟨g1, g2⟩ | ⟨i, x, g1, g2, g3⟩
  · rw [g1] at hG
    rw [g2]
    have HG := Lib.hid hG
    clear hW1 hW2 hb0 hb1 hbx hs1 hs2 hM g1 g2 hG hZ h hS hn
    go_enter Try.func90, Try.ntmps90
    go_wp2_with (fail)
    rw [← HW.out.1, ← HW.out.2]
    go_wp2_with (first | (go_at_call 87; refine HZ.out.mono ?_; rintro e w' ⟨rfl, rfl⟩) | (go_at_call 102; refine HG.out.mono ?_; rintro e w' ⟨rfl, hbG⟩; have hn3 := (hbG.block (w.heap.size + 1) (by have := HB.out.2.1; omega)).trans HB.out.2.2.2; obtain ⟨c3, c4, f3, f4⟩ := two_cells hn3; have H5 := Lib.hid (And.intro hbG hn3); clear hbG hn3))
    obtain ⟨q1, q2, _, _⟩ := two_cells (setCell_at _ _ 1 _ _ (.int .i64 0) (setCell_at _ _ 0 _ _ (.int .i64 0) H5.out.2))
    refine bodyPost_ret (v := .tuple #[.agg #[.int .i64 0, .int .i64 0], .int .i64 4]) (by simp [results, Try.results90, go_sem, q1, q2]) rfl ⟨rfl, ?_⟩
    exact (((HB.out.1.trans (H5.out.1.mono (by have := HB.out.2.1; omega))).setCell (p := ⟨w.heap.size + 1, 0, none⟩) (by show w.heap.size ≤ w.heap.size + 1; omega) _).setCell (p := ⟨w.heap.size + 1, 1, none⟩) (by show w.heap.size ≤ w.heap.size + 1; omega) _)
  · rw [g1] at hG
    rw [g3]
    obtain ⟨hlc, hcap⟩ := h.len
    unfold maxLen at hcap
    have hil : i < L.length := (List.getElem?_eq_some_iff.1 g2).1
    have e2 : (0 : Int) ≤ (i : Int) := by omega
    have e3 : (i : Int) < (L.length : Int) := by omega
    obtain ⟨g, o, hA, hg, d1, d2⟩ := (h.below hb1).at g2
    obtain ⟨p, n⟩ := x
    subst hA
    dsimp only at d1 d2
    have HG := Lib.hid (And.intro hG (And.intro d1 d2))
    clear hW1 hW2 hb0 hb1 hbx hs1 hs2 hM g1 g2 g3 hG hZ h hS hn d1 d2
    go_enter Try.func90, Try.ntmps90
    go_wp2_with (fail)
    rw [← HW.out.1, ← HW.out.2]
    go_wp2_with (first | (go_at_call 87; refine HZ.out.mono ?_; rintro e w' ⟨rfl, rfl⟩) | (go_at_call 102; refine HG.out.1.mono ?_; rintro e w' ⟨rfl, hbG⟩; have hn3 := (hbG.block (w.heap.size + 1) (by have := HB.out.2.1; omega)).trans HB.out.2.2.2; obtain ⟨c3, c4, f3, f4⟩ := two_cells hn3; have c5 := cell_keep2 hbG b2; have d1 := cell_keep2 hbG HG.out.2.1; have d2 := cell_keep2 hbG HG.out.2.2; have H5 := Lib.hid (And.intro hbG hn3); clear hbG hn3))
    obtain ⟨q1, q2, _, _⟩ := two_cells (setCell_at _ _ 1 _ _ (.int .i64 (n : Int)) (setCell_at _ _ 0 _ _ (.int .i64 (p : Int)) H5.out.2))
    refine bodyPost_ret (v := .tuple #[.agg #[.int .i64 (p : Int), .int .i64 (n : Int)], .int .i64 0]) (by simp [results, Try.results90, go_sem, q1, q2]) rfl ⟨rfl, ?_⟩
    exact (((HB.out.1.trans (H5.out.1.mono (by have := HB.out.2.1; omega))).setCell (p := ⟨w.heap.size + 1, 0, none⟩) (by show w.heap.size ≤ w.heap.size + 1; omega) _).setCell (p := ⟨w.heap.size + 1, 1, none⟩) (by show w.heap.size ≤ w.heap.size + 1; omega) _)
end Bu
end Go.Proofs.Ytlknhbcambdccaa
namespace Go.Proofs.Ytlknhbcambdccaa
open Go.RowKit
namespace Bu

def largeI : Option Nat → Int
  | some k => (k : Int)
  | none => -1
def LargeV : Option Nat → Value
  | some k => .tuple #[.int .i64 (k : Int), .int .i64 0]
  | none => .tuple #[.int .i64 0, .int .i64 4]

theorem largeI_next (a : Option Nat) (n : Nat) : largeI (some (max (a.getD 0) n)) = max (largeI a) (n : Int) := by
  cases a with
  | none => show (((max 0 n : Nat)) : Int) = max (-1) (n : Int); omega
  | some k => show (((max k n : Nat)) : Int) = max (k : Int) (n : Int); omega

theorem small_blocks {N : Nat} {L : List Blk} (h : St N L) : Small (blocksB N L) := fun x hx => by
  have := ((mem_blocks h x).1 hx).lt
  have hn := h.n10
  have : 2 ^ N ≤ 2 ^ 10 := Nat.pow_le_pow_right (by omega) hn
  omega
theorem asc_len {L : List Blk} {N : Nat} (ha : L.Pairwise fun a b => a.1 + 2 ^ a.2 ≤ b.1) (hb : ∀ x ∈ L, x.1 + 2 ^ x.2 ≤ N) : L.length ≤ N := by
  have key : ∀ (L : List Blk) (s : Nat), L.Pairwise (fun a b => a.1 + 2 ^ a.2 ≤ b.1) → (∀ x ∈ L, s ≤ x.1 ∧ x.1 + 2 ^ x.2 ≤ N) → s ≤ N → L.length + s ≤ N := by
    intro L
    induction L with
    | nil => intro s _ _ h; simpa using h
    | cons x L ih =>
      intro s hp hx hs
      rw [List.pairwise_cons] at hp
      have h1 := hx x (List.mem_cons_self ..)
      have h2 := pow_pos2 x.2
      have := ih (x.1 + 2 ^ x.2) hp.2 (fun y hy => ⟨hp.1 y hy, (hx y (List.mem_cons_of_mem _ hy)).2⟩) h1.2
      rw [List.length_cons]
      omega
  have := key L 0 ha (fun x hx => ⟨Nat.zero_le _, hb x hx⟩) (Nat.zero_le _)
  omega
theorem blocks_len {N : Nat} {L : List Blk} (h : St N L) : (blocksB N L).length ≤ 1024 := asc_len (blocks_asc h) fun x hx => (small_blocks h x hx).2
theorem st_len {N : Nat} {L : List Blk} (h : St N L) : L.length ≤ 1024 := asc_len h.asc fun x hx => (st_le h x hx).2

theorem room_len {n : Nat} : ∀ {B : List Blk}, Small B → roomB n B ≤ B.length * 1024 := by
  intro B
  induction B with
  | nil => intro _; exact Nat.zero_le _
  | cons x B ih =>
    intro h
    have h1 := ih fun y hy => h y (List.mem_cons_of_mem _ hy)
    have h2 := h x (List.mem_cons_self ..)
    have h3 : 2 ^ (x.2 - n) ≤ 2 ^ 10 := Nat.pow_le_pow_right (by decide) (by omega)
    have : roomB n (x :: B) = (if n ≤ x.2 then 2 ^ (x.2 - n) else 0) + roomB n B := by unfold roomB; simp
    rw [this, List.length_cons]
    split <;> omega

end Bu
end Go.Proofs.Ytlknhbcambdccaa
namespace Go.Proofs.Ytlknhbcambdccaa
open Go.RowKit
namespace Bu

/-- What Drop returns. -/
def DropR (N : Nat) (A : Option Addr) (c : Nat) (L : List Blk) (x : Blk) (B : Nat) (e : Ending) (w' : World) : Prop :=
  (x ∈ L ∧ ∃ A' c', e = .returned (.tuple #[sv N A' (delB L x).length c', .int .i64 0]) ∧ Own w' B A' c' (delB L x)) ∨ (x ∉ L ∧ e = .returned (.tuple #[sv N A L.length c, .int .i64 9]))

set_option maxRecDepth 100000 in
set_option maxHeartbeats 2000000 in
theorem dropR_bad (w : World) (N : Nat) (A : Option Addr) (c n : Nat) (p k : Int) (hN : N ≤ 10) (hbad : inZ N p k = false) :
    Calls Try.prog 85 #[sv N A n c, .int .i64 p, .int .i64 k] w fun e w' => e = .returned (.tuple #[sv N A n c, .int .i64 7]) ∧ Below w.heap.size w w' := by
  have hIn := fun W => inR_ok N p k hN W
  rw [hbad] at hIn
  have HI := Lib.hid hIn
  clear hIn hbad
  go_enter Try.func85, Try.ntmps85
  go_wp2_with (go_at_call 101; refine (HI.out _).mono ?_; rintro e w' ⟨rfl, rfl⟩)
  refine bodyPost_ret (v := .tuple #[sv N A n c, .int .i64 7]) (by simp [results, Try.results85, go_sem]) rfl ⟨rfl, ?_⟩
  exact ((below_box w _).alloc (by simp) _)

set_option maxRecDepth 100000 in
set_option maxHeartbeats 8000000 in
theorem dropR_ok (w : World) (N : Nat) (A : Option Addr) (c : Nat) (L : List Blk) (x : Blk) (hN : N ≤ 10) (h : BlkAt w A c L) (hL : L.length ≤ 2048) (hin : InB N x) :
    Calls Try.prog 85 #[sv N A L.length c, .int .i64 (x.1 : Int), .int .i64 (x.2 : Int)] w fun e w' => DropR N A c L x w.heap.size e w' ∧ Below w.heap.size w w' := by
  obtain ⟨q, m⟩ := x
  obtain ⟨hlc, hcap⟩ := h.len
  unfold maxLen at hcap
  have hIn := fun W => inR_ok N (q : Int) (m : Int) hN W
  simp only [inZ_nat hN, decide_eq_true hin] at hIn
  have HI := Lib.hid hIn
  obtain ⟨R, hR⟩ : ∃ R, R = delB L (q, m) := ⟨_, rfl⟩
  have hst : R = [] ++ delB (L.drop 0) (q, m) := by rw [hR, List.drop_zero, List.nil_append]
  have HR := Lib.hid (And.intro hst hR)
  have hinfo := info_open block_info
  obtain ⟨i0, z0, hi0, hz0, hz1, hz2, hz3⟩ := hinfo
  have HL := Lib.hid h
  have heq := fun W x y z t => run_blk_eq W x y z t
  clear h hR hst hIn hin
  dsimp only
  go_enter Try.func85, Try.ntmps85
  go_wp2_with (go_at_call 101; refine (HI.out _).mono ?_; rintro e w' ⟨rfl, rfl⟩)
  generalize hS : w.heap.size + 1 + 1 = S
  generalize hW0 : ((w.alloc (.cells #[.int .i64 (N : Int), .slice A L.length c] 46)).alloc (.cells #[.int .i64 0, .slice none 0 0] 46)).alloc (.cells #[.int .i64 (N : Int), .slice none 0 0] 46) = W0
  have hs0 : W0.heap.size = w.heap.size + 3 := by rw [← hW0]; simp
  have g0 : W0.heap[w.heap.size]? = some (.cells #[.int .i64 (N : Int), .slice A L.length c] 46 (0, 0)) := by
    rw [← hW0, alloc_old _ _ _ (by simp <;> omega), alloc_old _ _ _ (by simp <;> omega), heapAlloc, if_pos rfl]
  have g2 : W0.heap[w.heap.size + 1]? = some (.cells #[.int .i64 0, .slice none 0 0] 46 (0, 0)) := by
    rw [← hW0, alloc_old _ _ _ (by simp <;> omega), heapAlloc, if_pos (by simp <;> omega)]
  have g3 : OutAt W0 S N none 0 [] := ⟨by rw [← hW0, ← hS, heapAlloc, if_pos (by simp)]; rfl, World.ownsRow_nil _ _ _ _⟩
  have hbw0 : Below w.heap.size w W0 := by
    rw [← hW0]; exact ((below_box w _).alloc (by simp) _).alloc (by simp; omega) _
  have HG := Lib.hid (And.intro g2 (And.intro hbw0 (And.intro hS hs0)))
  obtain ⟨s0, s1, _, _⟩ := two_cells g0
  have hSw : w.heap.size + 2 = S := by omega
  clear hW0 g0 g2 hbw0 hS hs0
  go_loopw [9, 10] (fun d i W => ∃ (k : Nat) (fd : Bool) (pre : List Blk) (A' : Option Addr) (c' : Nat), k ≤ L.length ∧ i = .int .i64 (k : Int) ∧ d = .bool fd ∧ OutAt W S N A' c' pre ∧ Below S W0 W ∧ R = pre ++ delB (L.drop k) (q, m) ∧ decide ((q, m) ∈ L) = (fd || decide ((q, m) ∈ L.drop k)) ∧ pre.length ≤ k) (fun _ i _ => L.length - (intOf i).toNat)
  case atStart => exact ⟨0, false, [], none, 0, Nat.zero_le _, rfl, rfl, g3, Below.refl _ _, HR.out.1, by simp, Nat.zero_le _⟩
  case round =>
    obtain ⟨W, rfl⟩ : ∃ W : World, W = wr := ⟨_, rfl⟩
    obtain ⟨k, fd, pre, A', c', hk, rfl, rfl, hout, hbw, hRR, hfd, hpl⟩ := hrel
    have hs1 := s1
    replace s0 := (hbw.cell (p := ⟨w.heap.size, 0, none⟩) (by show w.heap.size < S; omega)).trans s0
    replace s1 := (hbw.cell (p := ⟨w.heap.size, 1, none⟩) (by show w.heap.size < S; omega)).trans s1
    obtain ⟨_, o1, _, of1, hSW⟩ := hout.cells
    have hne := hout.ne
    by_cases hlt : k < L.length
    · obtain ⟨y, hy⟩ : ∃ y, L[k]? = some y := ⟨_, List.getElem?_eq_getElem hlt⟩
      obtain ⟨g, o, hA, hgw, d1, d2⟩ := HL.out.at hy
      have hd : L.drop k = y :: L.drop (k + 1) := by
        rw [List.drop_eq_getElem_cons hlt]
        congr 1
        rw [List.getElem?_eq_getElem hlt] at hy
        injection hy
      obtain ⟨p, n⟩ := y
      subst hA
      have hgS : g < S := by omega
      have hgW : g < W.heap.size := by omega
      have hsW : w.heap.size < W.heap.size := by omega
      have hblk : W.heap[g]? = w.heap[g]? := (hbw.block g hgS).trans (HG.out.2.1.block g hgw)
      replace d1 := (World.cell?_of_block (a := ⟨g, _, none⟩) hblk).trans d1
      replace d2 := (World.cell?_of_block (a := ⟨g, _, none⟩) hblk).trans d2
      have hkk : IntKind.i64.wrap ((k : Int) + 1) = ((k + 1 : Nat) : Int) := by rw [IntWalk.i64_in _ (by omega)]; rfl
      have e1 : (0 : Int) ≤ (k : Int) := by omega
      have e2 : (k : Int) < (L.length : Int) := by omega
      dsimp only at d1 d2
      by_cases hpq : p = q
      · by_cases hnm : n = m
        · have t1 : ((p : Int) == (q : Int)) = true := by simp [hpq]
          have t2 : ((n : Int) == (m : Int)) = true := by simp [hnm]
          have hres : delB (L.drop k) (q, m) = delB (L.drop (k + 1)) (q, m) := by rw [hd]; unfold delB; rw [List.filter_cons_of_neg (by simp [hpq, hnm])]
          rw [hres] at hRR
          have hfd2 : decide ((q, m) ∈ L) = true := by rw [hfd, hd]; simp [hpq, hnm]
          have HB := Lib.hid (And.intro hout (And.intro hbw (And.intro hRR hfd2)))
          clear hout hbw hRR hres hd hy hne hblk hfd hfd2 hs1 hpq hnm
          go_wp2_with (fail)
          go_roundw
          case rel => exact ⟨k + 1, true, pre, A', c', by omega, by go_num, rfl, HB.out.1, HB.out.2.1, HB.out.2.2.1, by rw [HB.out.2.2.2]; rfl, by omega⟩
          case measure => simp [intOf]; omega
        · have t1 : ((p : Int) == (q : Int)) = true := by simp [hpq]
          have t2 : ((n : Int) == (m : Int)) = false := by rw [beq_eq_false_iff_ne]; omega
          have hne2 : ((p, n) : Blk) ≠ (q, m) := fun e => by injection e with e1 e2; omega
          have hres : delB (L.drop k) (q, m) = (p, n) :: delB (L.drop (k + 1)) (q, m) := by rw [hd]; unfold delB; rw [List.filter_cons_of_pos (by simpa using hne2)]
          rw [hres] at hRR
          have hfd2 : (decide ((q, m) ∈ L)) = (fd || decide ((q, m) ∈ L.drop (k + 1))) := by rw [hfd, hd]; simp [Ne.symm hne2]
          have hpq2 := hnm
          have HB := Lib.hid (And.intro hbw (And.intro hRR (And.intro (Ne.symm hne2) hfd2)))
          have HOUT := Lib.hid hout
          have HNE := Lib.hid hne
          clear hout hbw hRR hres hd hy hne hblk hfd hfd2 hne2 hpq hpq2 hnm hs1
          go_wp2_with (fail)
          have s5 : (W.alloc (.cells #[.int .i64 (p : Int), .int .i64 (n : Int)] 126)).drew.cell? ⟨S, 1, none⟩ = some (.slice A' pre.length c') ∧ (W.alloc (.cells #[.int .i64 (p : Int), .int .i64 (n : Int)] 126)).drew.frozen? ⟨S, 1, none⟩ = false ∧ (W.alloc (.cells #[.int .i64 (p : Int), .int .i64 (n : Int)] 126)).drew.cell? ⟨w.heap.size, 1, none⟩ = some (.slice (some ⟨g, o, none⟩) L.length c) ∧ (W.alloc (.cells #[.int .i64 (p : Int), .int .i64 (n : Int)] 126)).drew.cell? ⟨g, o + k * 2, none⟩ = some (.int .i64 (p : Int)) ∧ (W.alloc (.cells #[.int .i64 (p : Int), .int .i64 (n : Int)] 126)).drew.cell? ⟨g, o + k * 2 + 1, none⟩ = some (.int .i64 (n : Int)) :=
            ⟨(World.cell?_alloc_lt W _ _ hSW).trans o1, (World.frozen?_alloc_old W _ _ (Nat.ne_of_lt hSW)).trans of1, (World.cell?_alloc_lt W _ _ hsW).trans s1, (World.cell?_alloc_lt W _ _ hgW).trans d1, (World.cell?_alloc_lt W _ _ hgW).trans d2⟩
          have hsd : (W.alloc (.cells #[.int .i64 (p : Int), .int .i64 (n : Int)] 126)).drew.heap.size = W.heap.size + 1 := by show (W.alloc _).heap.size = _; simp
          obtain ⟨r0, r1, r2, r3, r4⟩ := s5
          have HNW := Lib.hid (show ∀ j u, [Value.int .i64 (p : Int), .int .i64 (n : Int)][j]? = some u → (W.alloc (.cells #[.int .i64 (p : Int), .int .i64 (n : Int)] 126)).drew.cell? ((⟨W.heap.size, 0, none⟩ : Addr).add j) = some u from fun j u hu => two_new W _ _ _ j u hu)
          have HSD := Lib.hid hsd
          clear hsd
          go_region_law ((refine step_append_lies _ (by rfl) (.tmp 38) (.tmp 44) _ (by rfl) (S + 1) 126 i0 z0 2 16 Try.underlying44 hi0 hz0 hz1 hz2 hz3 (by omega) (.slice A' pre.length c') pre.length (cellsL pre) (by rfl) (HOUT.out.row1 _) ⟨W.heap.size, 0, none⟩ 1 1 [.int .i64 (p : Int), .int .i64 (n : Int)] (by rfl) (by rfl) HNW.out (by simp [Value.oneCell']) (by omega) (by unfold maxLen; omega) (by omega) (by rw [HSD.out]; omega) (W.heap.size + 1) HSD.out ?_; intro g6 cap6 w6 hown6 hgrow6 hat6 hlt6; have u0 : w6.cell? ⟨S, 1, none⟩ = some (.slice A' pre.length c') := (hgrow6.cell_far ⟨_, _, none⟩ (by rw [HSD.out]; exact Nat.lt_succ_of_lt hSW) HNE.out).trans r0; have u1 : w6.frozen? ⟨S, 1, none⟩ = false := (hgrow6.frozen_far ⟨_, _, none⟩ (by rw [HSD.out]; exact Nat.lt_succ_of_lt hSW) HNE.out).trans r1; have H6 := Lib.hid (And.intro hown6 hgrow6); clear hown6 hgrow6 hat6 hlt6))
          all_goals
            obtain ⟨A2, c2, hv2, ho2, hb2⟩ := out_push (w := W) (x := (p, n)) (ob := .cells #[.int .i64 (p : Int), .int .i64 (n : Int)] 126) HOUT.out H6.out.1 ⟨H6.out.2.os, H6.out.2.tape, H6.out.2.output, H6.out.2.size, H6.out.2.block⟩
            have H7 := Lib.hid (And.intro ho2 hb2)
            clear ho2 hb2
            injection hv2 with hv3 hv4 hv5
            subst hv3; subst hv5
            go_wp2_with (fail)
            go_roundw
            case rel =>
              refine ⟨k + 1, fd, pre ++ [(p, n)], _, _, by omega, by go_num, rfl, H7.out.1.keep fun _ _ _ => rfl, ?_, by rw [HB.out.2.1]; simp, by rw [HB.out.2.2.2], by rw [List.length_append, List.length_singleton]; omega⟩
              have := H7.out.2 S W0 (Nat.le_refl _) HB.out.1
              first | exact this | exact this.drew
            case measure => simp [intOf]; omega

      · have t1 : ((p : Int) == (q : Int)) = false := by rw [beq_eq_false_iff_ne]; omega
        have hne2 : ((p, n) : Blk) ≠ (q, m) := fun e => by injection e with e1 e2; omega
        have hres : delB (L.drop k) (q, m) = (p, n) :: delB (L.drop (k + 1)) (q, m) := by rw [hd]; unfold delB; rw [List.filter_cons_of_pos (by simpa using hne2)]
        rw [hres] at hRR
        have hfd2 : (decide ((q, m) ∈ L)) = (fd || decide ((q, m) ∈ L.drop (k + 1))) := by rw [hfd, hd]; simp [Ne.symm hne2]
        have HB := Lib.hid (And.intro hbw (And.intro hRR (And.intro (Ne.symm hne2) hfd2)))
        have HOUT := Lib.hid hout
        have HNE := Lib.hid hne
        clear hout hbw hRR hres hd hy hne hblk hfd hfd2 hne2 hpq hs1
        go_wp2_with (fail)
        have s5 : (W.alloc (.cells #[.int .i64 (p : Int), .int .i64 (n : Int)] 126)).drew.cell? ⟨S, 1, none⟩ = some (.slice A' pre.length c') ∧ (W.alloc (.cells #[.int .i64 (p : Int), .int .i64 (n : Int)] 126)).drew.frozen? ⟨S, 1, none⟩ = false ∧ (W.alloc (.cells #[.int .i64 (p : Int), .int .i64 (n : Int)] 126)).drew.cell? ⟨w.heap.size, 1, none⟩ = some (.slice (some ⟨g, o, none⟩) L.length c) ∧ (W.alloc (.cells #[.int .i64 (p : Int), .int .i64 (n : Int)] 126)).drew.cell? ⟨g, o + k * 2, none⟩ = some (.int .i64 (p : Int)) ∧ (W.alloc (.cells #[.int .i64 (p : Int), .int .i64 (n : Int)] 126)).drew.cell? ⟨g, o + k * 2 + 1, none⟩ = some (.int .i64 (n : Int)) :=
          ⟨(World.cell?_alloc_lt W _ _ hSW).trans o1, (World.frozen?_alloc_old W _ _ (Nat.ne_of_lt hSW)).trans of1, (World.cell?_alloc_lt W _ _ hsW).trans s1, (World.cell?_alloc_lt W _ _ hgW).trans d1, (World.cell?_alloc_lt W _ _ hgW).trans d2⟩
        have hsd : (W.alloc (.cells #[.int .i64 (p : Int), .int .i64 (n : Int)] 126)).drew.heap.size = W.heap.size + 1 := by show (W.alloc _).heap.size = _; simp
        obtain ⟨r0, r1, r2, r3, r4⟩ := s5
        have HNW := Lib.hid (show ∀ j u, [Value.int .i64 (p : Int), .int .i64 (n : Int)][j]? = some u → (W.alloc (.cells #[.int .i64 (p : Int), .int .i64 (n : Int)] 126)).drew.cell? ((⟨W.heap.size, 0, none⟩ : Addr).add j) = some u from fun j u hu => two_new W _ _ _ j u hu)
        have HSD := Lib.hid hsd
        clear hsd
        go_region_law ((refine step_append_lies _ (by rfl) (.tmp 38) (.tmp 44) _ (by rfl) (S + 1) 126 i0 z0 2 16 Try.underlying44 hi0 hz0 hz1 hz2 hz3 (by omega) (.slice A' pre.length c') pre.length (cellsL pre) (by rfl) (HOUT.out.row1 _) ⟨W.heap.size, 0, none⟩ 1 1 [.int .i64 (p : Int), .int .i64 (n : Int)] (by rfl) (by rfl) HNW.out (by simp [Value.oneCell']) (by omega) (by unfold maxLen; omega) (by omega) (by rw [HSD.out]; omega) (W.heap.size + 1) HSD.out ?_; intro g6 cap6 w6 hown6 hgrow6 hat6 hlt6; have u0 : w6.cell? ⟨S, 1, none⟩ = some (.slice A' pre.length c') := (hgrow6.cell_far ⟨_, _, none⟩ (by rw [HSD.out]; exact Nat.lt_succ_of_lt hSW) HNE.out).trans r0; have u1 : w6.frozen? ⟨S, 1, none⟩ = false := (hgrow6.frozen_far ⟨_, _, none⟩ (by rw [HSD.out]; exact Nat.lt_succ_of_lt hSW) HNE.out).trans r1; have H6 := Lib.hid (And.intro hown6 hgrow6); clear hown6 hgrow6 hat6 hlt6))
        all_goals
          obtain ⟨A2, c2, hv2, ho2, hb2⟩ := out_push (w := W) (x := (p, n)) (ob := .cells #[.int .i64 (p : Int), .int .i64 (n : Int)] 126) HOUT.out H6.out.1 ⟨H6.out.2.os, H6.out.2.tape, H6.out.2.output, H6.out.2.size, H6.out.2.block⟩
          have H7 := Lib.hid (And.intro ho2 hb2)
          clear ho2 hb2
          injection hv2 with hv3 hv4 hv5
          subst hv3; subst hv5
          go_wp2_with (fail)
          go_roundw
          case rel =>
            refine ⟨k + 1, fd, pre ++ [(p, n)], _, _, by omega, by go_num, rfl, H7.out.1.keep fun _ _ _ => rfl, ?_, by rw [HB.out.2.1]; simp, by rw [HB.out.2.2.2], by rw [List.length_append, List.length_singleton]; omega⟩
            have := H7.out.2 S W0 (Nat.le_refl _) HB.out.1
            first | exact this | exact this.drew
          case measure => simp [intOf]; omega

    · obtain rfl : k = L.length := by omega
      have hdl : L.drop L.length = [] := List.drop_length
      rw [hdl] at hRR hfd
      have hRR2 : R = pre := hRR.trans (by show pre ++ [] = pre; simp)
      cases fd with
      | true =>
        have hmem : (q, m) ∈ L := by simpa using hfd
        have HB := Lib.hid (And.intro hout (And.intro hbw (And.intro (HR.out.2.symm.trans hRR2) hmem)))
        clear hout hbw hRR hRR2 hpl hne hfd hdl hmem
        have hres0 := (HB.out.2.1.block (w.heap.size + 1) (by omega)).trans HG.out.1
        obtain ⟨q2, q3, q0, q1⟩ := two_cells hres0
        have o0 := HB.out.1.cells.1
        have H9 := Lib.hid (two_set hres0 (.int .i64 (N : Int)) (.slice A' pre.length c'))
        clear hres0
        go_wp2_with (fail)
        obtain ⟨q4, q5, _, _⟩ := two_cells H9.out
        refine bodyPost_ret (v := .tuple #[sv N A' pre.length c', .int .i64 0]) (by simp [results, Try.results85, go_sem, q4, q5]) rfl ⟨?_, ?_⟩
        · refine .inl ⟨HB.out.2.2.2, A', c', by rw [HB.out.2.2.1], ?_⟩
          rw [HB.out.2.2.1]
          exact row_low (row_keep HB.out.1.row fun b hb _ => (setCell_far _ _ _ _ (by show b ≠ w.heap.size + 1; omega)).trans (setCell_far _ _ _ _ (by show b ≠ w.heap.size + 1; omega))) (by omega)
        · exact (((HG.out.2.1.trans (HB.out.2.1.mono (by omega))).setCell (p := ⟨w.heap.size + 1, 0, none⟩) (by show w.heap.size ≤ w.heap.size + 1; omega) _).setCell (p := ⟨w.heap.size + 1, 1, none⟩) (by show w.heap.size ≤ w.heap.size + 1; omega) _)
      | false =>
        have hmem : (q, m) ∉ L := by simpa using hfd
        have HB := Lib.hid (And.intro hbw hmem)
        have hres0 := (HB.out.1.block (w.heap.size + 1) (by omega)).trans HG.out.1
        obtain ⟨q2, q3, q0, q1⟩ := two_cells hres0
        have H9 := Lib.hid (two_set hres0 (.int .i64 (N : Int)) (.slice A L.length c))
        clear hout hbw hRR hRR2 hpl hne hfd hdl hmem hres0
        go_wp2_with (fail)
        obtain ⟨q4, q5, _, _⟩ := two_cells H9.out
        refine bodyPost_ret (v := .tuple #[sv N A L.length c, .int .i64 9]) (by simp [results, Try.results85, go_sem, q4, q5]) rfl ⟨.inr ⟨HB.out.2, rfl⟩, ?_⟩
        exact (((HG.out.2.1.trans (HB.out.1.mono (by omega))).setCell (p := ⟨w.heap.size + 1, 0, none⟩) (by show w.heap.size ≤ w.heap.size + 1; omega) _).setCell (p := ⟨w.heap.size + 1, 1, none⟩) (by show w.heap.size ≤ w.heap.size + 1; omega) _)
end Bu
end Go.Proofs.Ytlknhbcambdccaa
