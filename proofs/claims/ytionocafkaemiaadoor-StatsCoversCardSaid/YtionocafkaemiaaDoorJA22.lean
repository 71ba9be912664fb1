/- The program's envelope: the table. -/
import Derived.Test.YtionocafkaemiaaDoorJS4
import Derived.Test.YtionocafkaemiaaDoorK1
import Derived.Test.YtionocafkaemiaaDoorJA21
import Derived.Test.YtionocafkaemiaaDoorJS5
import Derived.Test.YtionocafkaemiaaDoorJS2
import Derived.Deep.CutBlock
import Derived.Outline
namespace Go.Proofs.YtionocafkaemiaaDoor
open Go.RowKit Go.Lib Go.Sort
namespace Sx
attribute [local irreducible] wpQuiet

/-- What the envelope's loops read. -/
structure EnvD (A : Option Addr) (c : Nat) (L : List Sm) (u : Int) (b4 b6 b9 b10 b12 : Nat) (w : World) : Prop where
  c4 : w.heap[b4]? = some (.cells #[.int .i64 u] 2 (0, 0))
  c6 : w.heap[b6]? = some (.cells #[.slice none 0 0] 24 (0, 0))
  c9 : w.heap[b9]? = some (.cells #[.slice A L.length c] 22 (0, 0))
  c10 : w.heap[b10]? = some (.cells #[.int .i64 (L.length : Int)] 3 (0, 0))
  c12 : w.heap[b12]? = some (.cells #[.int .i64 (-1), .int .i64 0] 31 (0, 0))
  row : SAt w A c L
theorem EnvD.below {A : Option Addr} {c : Nat} {L : List Sm} {u : Int} {b4 b6 b9 b10 b12 : Nat} {w w' : World} (h : EnvD A c L u b4 b6 b9 b10 b12 w) (hb : Below w.heap.size w w') : EnvD A c L u b4 b6 b9 b10 b12 w' :=
  ⟨(hb.block _ (lt_of_heap h.c4)).trans h.c4, (hb.block _ (lt_of_heap h.c6)).trans h.c6, (hb.block _ (lt_of_heap h.c9)).trans h.c9, (hb.block _ (lt_of_heap h.c10)).trans h.c10, (hb.block _ (lt_of_heap h.c12)).trans h.c12, h.row.below hb (Nat.le_refl _)⟩
theorem below_set2' {n u : Nat} {W w : World} (h : Below n W w) (hu : n ≤ u) (i j : Nat) (x y : Value) : Below n W ((w.setCell ⟨u, i, none⟩ x).setCell ⟨u, j, none⟩ y) := (h.setCell hu _).setCell hu _
theorem S5v.below {w9 w1 w2 : World} {b g o p : Nat} {x y z v : Value} (s : Below w9.heap.size w9 w1 ∧ w1.cell? ⟨b, 0, none⟩ = some x ∧ w1.cell? ⟨g, o, none⟩ = some y ∧ w1.cell? ⟨p, 0, none⟩ = some z ∧ w1.cell? ⟨p, 1, none⟩ = some v) (hb : Below w1.heap.size w1 w2) :
    Below w9.heap.size w9 w2 ∧ w2.cell? ⟨b, 0, none⟩ = some x ∧ w2.cell? ⟨g, o, none⟩ = some y ∧ w2.cell? ⟨p, 0, none⟩ = some z ∧ w2.cell? ⟨p, 1, none⟩ = some v :=
  ⟨s.1.trans (hb.mono s.1.size), cell_keep2 hb s.2.1, cell_keep2 hb s.2.2.1, cell_keep2 hb s.2.2.2.1, cell_keep2 hb s.2.2.2.2⟩
theorem S8v.below {w9 w1 w2 : World} {b1 b2 b3 b4 b5 b6 b7 o1 o2 o3 o4 o5 o6 o7 : Nat} {x1 x2 x3 x4 x5 x6 x7 : Value} (s : Below w9.heap.size w9 w1 ∧ w1.cell? ⟨b1, o1, none⟩ = some x1 ∧ w1.cell? ⟨b2, o2, none⟩ = some x2 ∧ w1.cell? ⟨b3, o3, none⟩ = some x3 ∧ w1.cell? ⟨b4, o4, none⟩ = some x4 ∧ w1.cell? ⟨b5, o5, none⟩ = some x5 ∧ w1.cell? ⟨b6, o6, none⟩ = some x6 ∧ w1.cell? ⟨b7, o7, none⟩ = some x7) (hb : Below w1.heap.size w1 w2) :
    Below w9.heap.size w9 w2 ∧ w2.cell? ⟨b1, o1, none⟩ = some x1 ∧ w2.cell? ⟨b2, o2, none⟩ = some x2 ∧ w2.cell? ⟨b3, o3, none⟩ = some x3 ∧ w2.cell? ⟨b4, o4, none⟩ = some x4 ∧ w2.cell? ⟨b5, o5, none⟩ = some x5 ∧ w2.cell? ⟨b6, o6, none⟩ = some x6 ∧ w2.cell? ⟨b7, o7, none⟩ = some x7 :=
  ⟨s.1.trans (hb.mono s.1.size), cell_keep2 hb s.2.1, cell_keep2 hb s.2.2.1, cell_keep2 hb s.2.2.2.1, cell_keep2 hb s.2.2.2.2.1, cell_keep2 hb s.2.2.2.2.2.1, cell_keep2 hb s.2.2.2.2.2.2.1, cell_keep2 hb s.2.2.2.2.2.2.2⟩
theorem grown_below9 {w : World} (n : Nat) (os : Array Obj) : Below w.heap.size w (grow (w.drewN n) os) := ⟨rfl, rfl, rfl, by show w.heap.size ≤ (w.heap ++ os).size; simp, fun k hk => by show (w.heap ++ os)[k]? = _; rw [Array.getElem?_append_left hk]⟩
/-- The load of the row that the statement appends to: under a name of its own. -/
def opL245 : Op := .load 22 (.tmp 244)
attribute [local go_sem] opL245
theorem row_far {w : World} {B T c : Nat} {A : Option Addr} {X : List Sm} {v : Value} (h : OwnE Sx.es 2 w B T A c X) {p : Nat} (hne : A.map (·.block) ≠ some p) (q j : Nat) (hq : q = p := by rfl) : OwnE Sx.es 2 (w.setCell ⟨q, j, none⟩ v) B T A c X := by
  subst hq
  refine ⟨h.1, ?_⟩
  rcases h.2 with hn | ⟨g, cap, cur, e, hB, hgg, rest⟩
  · exact .inl hn
  · refine .inr ⟨g, cap, cur, e, hB, ?_, rest⟩
    injection e with e1 e2 e3
    rw [setCell_far _ _ _ _ (fun hh : g = q => hne (by rw [e1]; show some g = some q; rw [hh]))]
    exact hgg
theorem set1 {w : World} {p T : Nat} {a x : Value} (h : w.heap[p]? = some (.cells #[a] T (0, 0))) : (w.setCell ⟨p, 0, none⟩ x).heap[p]? = some (.cells #[x] T (0, 0)) := by
  rw [setCell_at _ _ _ _ _ _ h]; rfl
theorem series_sz : (Tryd.prog.info? 24).map (·.size) = some 1 := by kernel_rfl
/-- What an envelope that is found comes out as. -/
def EnvR (L : List Sm) (u most : Int) (W : World) (e : Ending) (w' : World) : Prop := ∃ A' c', e = .returned (.tuple #[sv A' (overS L (bestL L u most.toNat)).length c', .int .i64 0]) ∧ SAt w' A' c' (overS L (bestL L u most.toNat)) ∧ Below W.heap.size W w'
theorem S5v.set {w9 w1 : World} {b g o p u i j : Nat} {x y z v a c : Value} (s : Below w9.heap.size w9 w1 ∧ w1.cell? ⟨b, 0, none⟩ = some x ∧ w1.cell? ⟨g, o, none⟩ = some y ∧ w1.cell? ⟨p, 0, none⟩ = some z ∧ w1.cell? ⟨p, 1, none⟩ = some v) (hu : w9.heap.size ≤ u) (hb : b < w9.heap.size) (hg : g < w9.heap.size) (hp : p < w9.heap.size) :
    Below w9.heap.size w9 ((w1.setCell ⟨u, i, none⟩ a).setCell ⟨u, j, none⟩ c) ∧ ((w1.setCell ⟨u, i, none⟩ a).setCell ⟨u, j, none⟩ c).cell? ⟨b, 0, none⟩ = some x ∧ ((w1.setCell ⟨u, i, none⟩ a).setCell ⟨u, j, none⟩ c).cell? ⟨g, o, none⟩ = some y ∧ ((w1.setCell ⟨u, i, none⟩ a).setCell ⟨u, j, none⟩ c).cell? ⟨p, 0, none⟩ = some z ∧ ((w1.setCell ⟨u, i, none⟩ a).setCell ⟨u, j, none⟩ c).cell? ⟨p, 1, none⟩ = some v := by
  have hk : Below w9.heap.size w1 ((w1.setCell ⟨u, i, none⟩ a).setCell ⟨u, j, none⟩ c) := below_set2' (Below.refl _ _) hu _ _ _ _
  exact ⟨s.1.trans hk, (hk.cell (p := ⟨b, 0, none⟩) hb).trans s.2.1, (hk.cell (p := ⟨g, o, none⟩) hg).trans s.2.2.1, (hk.cell (p := ⟨p, 0, none⟩) hp).trans s.2.2.2.1, (hk.cell (p := ⟨p, 1, none⟩) hp).trans s.2.2.2.2⟩
theorem frozen_plain {w : World} {p T : Nat} {cs : Array Value} (h : w.heap[p]? = some (.cells cs T (0, 0))) (j : Nat) : w.frozen? ⟨p, j, none⟩ = false := by simp [World.frozen?, h]
/-- An area is made: under a name of its own, so that the regions' walks do not try it first. -/
def opA20 : Op := .alloc 31
theorem run_alloc_A (w : World) : (Instr.alloc 31 true (.tuple #[])).run Tryd.prog w = .ok (.pointer (some ⟨w.heap.size, 0, none⟩)) (w.alloc (.cells #[.int .i64 0, .int .i64 0] 31)) := by kernel_rfl
theorem wp_alloc_A {w : World} {o : Oper} {a : Act} {K : Act → World → Prop} {Q : Exit → Act → World → Prop} (ho : o.op = .alloc 31)
    (h : ∀ p W', W'.heap[p]? = some (.cells #[.int .i64 0, .int .i64 0] 31 (0, 0)) → w.heap.size ≤ p → Below w.heap.size w W' → K (a.put o.dst (.pointer (some ⟨p, 0, none⟩))) W') : Oper.wp Tryd.prog o a w K Q := by
  unfold Oper.wp
  simp only [execOp, ho, Sem.run_bind, Sem.run_pure, Result.andThen_ok, run_alloc_A]
  exact h _ _ (by rw [heapAlloc, if_pos rfl]) (Nat.le_refl _) (below_box w _)
theorem arOf_0 : arOf 0 = ⟨0, 0⟩ := by decide
/-- The table where so many rows are filled. -/
def tabM (L : List Sm) (u : Int) (k : Nat) (r q : Nat) : Int := if r < k then lv L u r q else nonE
/-- In row k, so many places. -/
def tabI (L : List Sm) (u : Int) (k i : Nat) (r q : Nat) : Int := if r < k then lv L u r q else if r = k ∧ q < i then lv L u k q else nonE
/-- And at the next one so many ends. -/
def tabJ (L : List Sm) (u : Int) (k i d : Nat) (r q : Nat) : Int := if r < k then lv L u r q else if r = k ∧ q < i then lv L u k q else if r = k ∧ q = i then lvK L u (lv L u (k - 1)) i d else nonE
theorem tab_first (L : List Sm) (u : Int) (r q : Nat) : (if r = 0 ∧ q = L.length then (0 : Int) else nonE) = tabM L u 1 r q := by
  unfold tabM
  by_cases h : r = 0
  · subst h
    rw [if_pos (show 0 < 1 by omega)]
    unfold lv; simp
  · rw [if_neg (fun hh => h hh.1), if_neg (by omega)]
theorem tab_row (L : List Sm) (u : Int) (k r q : Nat) : tabM L u k r q = tabI L u k 0 r q := by
  unfold tabM tabI
  split
  · rfl
  · rw [if_neg (by omega)]
theorem tab_start (L : List Sm) (u : Int) (k i r q : Nat) : tabI L u k i r q = tabJ L u k i 0 r q := by
  unfold tabI tabJ
  split
  · rfl
  · split
    · rfl
    · split <;> rfl
theorem tab_place (L : List Sm) (u : Int) {k i : Nat} (hk : 1 ≤ k) (r q : Nat) : tabJ L u k i (L.length - i) r q = tabI L u k (i + 1) r q := by
  obtain ⟨m, rfl⟩ : ∃ m, k = m + 1 := ⟨k - 1, by omega⟩
  unfold tabI tabJ
  by_cases h1 : r < m + 1
  · rw [if_pos h1, if_pos h1]
  · rw [if_neg h1, if_neg h1]
    by_cases h2 : r = m + 1 ∧ q < i
    · rw [if_pos h2, if_pos (by omega)]
    · rw [if_neg h2]
      by_cases h3 : r = m + 1 ∧ q = i
      · rw [if_pos h3, if_pos (by omega), h3.2]
        rfl
      · rw [if_neg h3, if_neg (by omega)]
theorem tab_end (L : List Sm) (u : Int) {k : Nat} (hk : 1 ≤ k) {r q : Nat} (hq : q ≤ L.length) : tabI L u k L.length r q = tabM L u (k + 1) r q := by
  obtain ⟨m, rfl⟩ : ∃ m, k = m + 1 := ⟨k - 1, by omega⟩
  unfold tabM tabI
  by_cases h1 : r < m + 1
  · rw [if_pos h1, if_pos (by omega)]
  · rw [if_neg h1]
    by_cases h2 : r = m + 1
    · subst h2
      rw [if_pos (show m + 1 < m + 1 + 1 by omega)]
      by_cases h3 : q < L.length
      · rw [if_pos ⟨rfl, h3⟩]
      · obtain rfl : q = L.length := by omega
        rw [if_neg (by omega)]
        show nonE = lvK L u (lv L u m) L.length (L.length - L.length)
        rw [Nat.sub_self]; rfl
    · rw [if_neg (fun h => h2 h.1), if_neg (by omega)]
/-- Where an end does not help. -/
theorem tab_same (L : List Sm) (u : Int) {k i d : Nat} (h : lvK L u (lv L u (k - 1)) i (d + 1) = lvK L u (lv L u (k - 1)) i d) (r q : Nat) : tabJ L u k i d r q = tabJ L u k i (d + 1) r q := by
  unfold tabJ; rw [h]
/-- Where it does. -/
theorem tab_better (L : List Sm) (u : Int) {k i d : Nat} {x : Int} (h : lvK L u (lv L u (k - 1)) i (d + 1) = x) (r q : Nat) : (if r = k ∧ q = i then x else tabJ L u k i d r q) = tabJ L u k i (d + 1) r q := by
  unfold tabJ
  by_cases h1 : r = k ∧ q = i
  · obtain ⟨rfl, rfl⟩ := h1
    rw [if_pos ⟨rfl, rfl⟩, if_neg (Nat.lt_irrefl _), if_neg (by omega), if_pos ⟨rfl, rfl⟩, h]
  · rw [if_neg h1]
    simp only [if_neg h1]
set_option maxRecDepth 100000 in
set_option maxHeartbeats 40000000 in
theorem env_main (A : Option Addr) (c : Nat) (L : List Sm) (u most : Int) (W : World) (hL : SAt W A c L) (hchk : chkE L u most = 0) :
    Calls Tryd.prog 17 #[sv A L.length c, .int .i64 u, .int .i64 most] W (EnvR L u most W) := by
  obtain ⟨hE, hn0, hm1, hm5⟩ := chkE_ok hchk
  have hcm := hL.2.1
  have hlc := hL.1
  unfold maxLen at hcm
  have hlen := hE.ok.len
  have hu : inT u = true := inT_iff.2 ⟨by have := hE.end_le 0; have := hE.last _ (sm_mem hn0); have := (hE.ok.ok _ (sm_mem hn0)).a0; omega, hE.u1⟩
  have hck0 : checkS L = 0 := (checkS_ok L).2 hE.ok
  have hlast : ¬ u ≤ (sm L (L.length - 1)).a := by have := hE.last _ (sm_mem (show L.length - 1 < L.length by omega)); omega
  obtain ⟨k1, k2, k3⟩ := three_boxes W (.cells #[.slice A L.length c] 24) (.cells #[.int .i64 u] 2) (.cells #[.slice none 0 0] 24)
  have hbW := below_std (V := W) (.cells #[.slice A L.length c] 24) (.cells #[.int .i64 u] 2) (.cells #[.slice none 0 0] 24)
  have hCK := fun V (hV : Below W.heap.size W V) => check_ok A c L V (hL.below hV (Nat.le_refl _))
  rw [hck0] at hCK
  have HT := Lib.hid (fun V => isTime_ok u V)
  rw [hu] at HT
  have HX := Lib.hid (And.intro hbW (And.intro k1 (And.intro k2 (And.intro k3 (And.intro hCK (And.intro hL hE))))))
  clear hbW k1 k2 k3 hCK hL hE hu hck0 hchk
  go_enter Tryd.func17, Tryd.ntmps17
  go_upto_region 1 with (fail)
  generalize ((W.alloc (.cells #[.slice A L.length c] 24)).alloc (.cells #[.int .i64 u] 2)).alloc (.cells #[.slice none 0 0] 24) = V at *
  have s0 : V.cell? ⟨W.heap.size, 0, none⟩ = some (.slice A L.length c) := one_at HX.out.2.1
  go_upto_region 2 with (go_at_call 24; refine (HX.out.2.2.2.2.1 _ HX.out.1).mono ?_; rintro e w1 ⟨rfl, hb1⟩)
  replace s0 := cell_keep2 hb1 s0
  obtain ⟨V1, hV1⟩ : ∃ V1, V1 = w1 := ⟨_, rfl⟩
  subst hV1
  obtain ⟨b, hbe⟩ : ∃ b, b = V1.heap.size := ⟨_, rfl⟩
  obtain ⟨V2, hV2⟩ : ∃ V2, V2 = (V1.alloc (.cells #[.slice A L.length c] 22)).alloc (.cells #[.int .i64 (L.length : Int)] 3) := ⟨_, rfl⟩
  obtain ⟨k9, k10⟩ := two_boxes V1 #[.slice A L.length c] #[.int .i64 (L.length : Int)] 22 3
  have hb2 : Below V1.heap.size V1 V2 := by rw [hV2]; exact (below_box V1 _).alloc (by simp) _
  rw [← hV2, ← hbe] at k9
  rw [← hV2, ← hbe] at k10
  have hs2 : V2.heap.size = b + 2 := by rw [hV2, hbe]; simp
  have hW1 : Below W.heap.size W V1 := HX.out.1.trans (hb1.mono HX.out.1.size)
  have hW2 : Below W.heap.size W V2 := hW1.trans (hb2.mono hW1.size)
  have c4 : V2.heap[W.heap.size + 1]? = some (.cells #[.int .i64 u] 2 (0, 0)) := by
    have h1 := (hb1.block _ (lt_of_heap HX.out.2.2.1)).trans HX.out.2.2.1
    exact (hb2.block _ (lt_of_heap h1)).trans h1
  have c6 : V2.heap[W.heap.size + 2]? = some (.cells #[.slice none 0 0] 24 (0, 0)) := by
    have h1 := (hb1.block _ (lt_of_heap HX.out.2.2.2.1)).trans HX.out.2.2.2.1
    exact (hb2.block _ (lt_of_heap h1)).trans h1
  have hL2 : SAt V2 A c L := HX.out.2.2.2.2.2.1.below hW2 (Nat.le_refl _)
  obtain ⟨g, o, rfl, hg, d0, d1⟩ := hL2.s2 (show L.length - 1 < L.length by omega)
  have x4 := one_at c4
  have x9 := one_at k9
  have x10 := one_at k10
  have H2 := Lib.hid (And.intro hW2 (And.intro c4 (And.intro c6 (And.intro k9 (And.intro k10 (And.intro hL2 (And.intro hs2 (And.intro hbe hV2))))))))
  have hbW : W.heap.size + 2 < b := by have h1 := lt_of_heap HX.out.2.2.2.1; have h2 := hb1.size; omega
  go_upto_region 3 with (fail)
  go_upto_region 4 with (fail)
  rw [← hV2, ← hbe]
  clear hb1 hb2 hs2 hW1 hW2 c4 c6 k9 k10 hL2 hbe hV2 d1 s0
  generalize (sm L (L.length - 1)).a = la at *
  have q1 : (0 : Int) ≤ (L.length : Int) - 1 := by omega
  have q2 : ((L.length : Int) - 1).toNat = L.length - 1 := by omega
  have q3 : (L.length : Int) - 1 < (L.length : Int) := by omega
  have q4 : (L.length : Int) > 0 := by omega
  have q5 : ¬ most < 1 := by omega
  have q6 : ¬ 500 < most := by omega
  have q7 : IntKind.i64.wrap ((L.length : Int) - 1) = (L.length : Int) - 1 := IntWalk.i64_in _ (by omega)
  have p1 : decide (0 < L.length) = true := decide_eq_true hn0
  have p2 : decide ((0 : Int) < (L.length : Int)) = true := decide_eq_true (by omega)
  have p3 : decide (u ≤ la) = false := decide_eq_false (by omega)
  have p4 : decide (most < 1) = false := decide_eq_false q5
  have p5 : decide (500 < most) = false := decide_eq_false q6
  go_upto_region 6 with (fail)
  go_quiet ((go_at_call 49; exact Calls.quiet_of_same (HT.out _)))
  clear d0 q1 q2 q3 q7 hlast
  have p6 : ((L.length : Int) == 0) = false := beq_false_of_ne (by omega)
  go_upto_region 11 with (fail)
  obtain ⟨V3, hV3⟩ : ∃ V3, V3 = V2.drewN nq := ⟨_, rfl⟩
  rw [← hV3]
  have hb3 : Below V2.heap.size V2 V3 := by rw [hV3]; exact below_drewN (Below.refl _ _) _
  obtain ⟨V4, hV4⟩ : ∃ V4, V4 = V3.alloc (.cells #[.int .i64 (-1), .int .i64 0] 31) := ⟨_, rfl⟩
  have hb4 : Below V3.heap.size V3 V4 := by rw [hV4]; exact below_box V3 _
  have hs3 : V3.heap.size = b + 2 := by rw [hV3]; exact H2.out.2.2.2.2.2.2.1
  have hs4 : V4.heap.size = b + 3 := by rw [hV4]; simp [hs3]
  have k12 : V4.heap[b + 2]? = some (.cells #[.int .i64 (-1), .int .i64 0] 31 (0, 0)) := by rw [hV4, ← hs3]; exact new_at V3 _
  have hb24 : Below V2.heap.size V2 V4 := hb3.trans (hb4.mono hb3.size)
  have hEnv : EnvD (some ⟨g, o, none⟩) c L u (W.heap.size + 1) (W.heap.size + 1 + 1) b (b + 1) (b + 2) V4 :=
    ⟨(hb24.block _ (lt_of_heap H2.out.2.1)).trans H2.out.2.1, (hb24.block _ (lt_of_heap H2.out.2.2.1)).trans H2.out.2.2.1, (hb24.block _ (lt_of_heap H2.out.2.2.2.1)).trans H2.out.2.2.2.1, (hb24.block _ (lt_of_heap H2.out.2.2.2.2.1)).trans H2.out.2.2.2.2.1, k12, H2.out.2.2.2.2.2.1.below hb24 (Nat.le_refl _)⟩
  obtain ⟨M, hM⟩ : ∃ M : Nat, M = min most.toNat L.length := ⟨_, rfl⟩
  have hMi : (if (L.length : Int) < most then (L.length : Int) else most) = (M : Int) := by split <;> omega
  have hMi2 : min most (L.length : Int) = (M : Int) := by omega
  have hM1 : 1 ≤ M := by omega
  have hM2 : M ≤ L.length := by omega
  have hmk := make_rows V4 (fun _ => 0) M L.length (by omega)
  obtain ⟨V5, hV5⟩ : ∃ V5, V5 = V4.alloc (.cells (outT (fun _ => 0) M L.length 0).toArray 87) := ⟨_, rfl⟩
  have hb5 : Below V4.heap.size V4 V5 := by rw [hV5]; exact below_box V4 _
  have hT0 : TabK V5 (b + 3) (b + 3) (fun _ => 0) M L.length 0 (fun _ _ => nonE) := by
    refine ⟨by rw [hV5, ← hs4]; exact new_at V4 _, fun m hm => absurd hm (Nat.not_lt_zero _), fun m _ hm => absurd hm (Nat.not_lt_zero _), fun m hm => absurd hm (Nat.not_lt_zero _), Nat.le_refl _, fun m hm => absurd hm (Nat.not_lt_zero _)⟩
  rw [← hV5, hs4] at hmk
  have hW4 : Below W.heap.size W V4 := H2.out.1.trans (hb24.mono H2.out.1.size)
  have HE4 := Lib.hid (And.intro hEnv (And.intro hW4 (And.intro hs4 (And.intro hM (And.intro hV3 hV4)))))
  have HT0 := Lib.hid (And.intro hT0 hb5)
  have x10' := one_at hEnv.c10
  have x10b : V3.cell? ⟨b + 1, 0, none⟩ = some (.int .i64 (L.length : Int)) := by rw [hV3]; exact x10
  clear hEnv hW4 hM hV3 hT0 hb3 hb4 hb5 hb24 k12 x4 x9 x10 p1 p2 p3 p4 p5 p6 q4
  go_upto_region 12 with (fail)
  rw [← hV4]
  clear hV4 hs4 hs3
  go_upto_region 14 with (fail)
  rw [← hV5]
  clear hV5 hmk
  have x10 : V5.cell? ⟨b + 1, 0, none⟩ = some (.int .i64 (L.length : Int)) := cell_keep2 HT0.out.2 x10'
  have x12 : V5.cell? ⟨b + 2, 0, none⟩ = some (.int .i64 (-1)) ∧ V5.cell? ⟨b + 2, 1, none⟩ = some (.int .i64 0) := two_at ((HT0.out.2.block _ (lt_of_heap HE4.out.1.c12)).trans HE4.out.1.c12)
  obtain ⟨x12a, x12b⟩ := x12
  clear x10' x10b
  go_upto_block 1 with (fail)
  go_cut [14] from 79 to 90 (fun _ wx => Below (b + 3) V4 wx ∧ ∃ bs, TabK wx (b + 3) (b + 3) bs M L.length (M + 1) (fun _ _ => nonE))
  case first =>
    go_wp2_with (fail)
    go_loopw [14, 79] (fun _ i wr => ∃ (k : Nat), k ≤ M + 1 ∧ i = .int .i64 (k : Int) ∧ Below (b + 3) V4 wr ∧ ∃ bs, TabK wr (b + 3) (b + 3) bs M L.length k (fun _ _ => nonE)) (fun _ i _ => M + 1 - (RowKit.intOf i).toNat)
    case atStart => exact ⟨0, Nat.zero_le _, rfl, by have := HT0.out.2; rw [HE4.out.2.2.1] at this; exact this, _, HT0.out.1⟩
    case round =>
      obtain ⟨k, hk, rfl, hbw, bs, hT⟩ := hrel
      have hEs := HE4.out.2.2.1
      have k10 := (hbw.block _ (by have := lt_of_heap HE4.out.1.c10; omega)).trans HE4.out.1.c10
      have k12 := (hbw.block _ (by omega)).trans HE4.out.1.c12
      by_cases hlt : k < M + 1
      · have hlti : (k : Int) < (M : Int) + 1 := by omega
        clear x10 x12a x12b
        have x10 := one_at k10
        obtain ⟨x12a, x12b⟩ := two_at k12
        obtain ⟨w5, hw5⟩ : ∃ w5, w5 = wr.alloc (.cells #[.int .i64 (-1), .int .i64 0] 31) := ⟨_, rfl⟩
        have hb5 : Below wr.heap.size wr w5 := by rw [hw5]; exact below_box wr _
        have hn5 : w5.heap[wr.heap.size]? = some (.cells #[.int .i64 (-1), .int .i64 0] 31 (0, 0)) := by rw [hw5]; exact new_at wr _
        have hs5 : w5.heap.size = wr.heap.size + 1 := by rw [hw5]; simp
        have hRep := repeat_ok w5 wr.heap.size ⟨-1, 0⟩ (L.length + 1) (by omega) (by omega) hn5
        rw [show ((L.length + 1 : Nat) : Int) = (L.length : Int) + 1 by omega, hw5] at hRep
        have x10' := cell_keep2 hb5 x10
        have HR := Lib.hid (And.intro hRep (And.intro hbw (And.intro hT (And.intro hb5 (And.intro hw5 hs5)))))
        have hgo := lt_of_heap hT.out
        have l10 := lt_of_heap k10
        clear hRep hbw hT hb5 hn5 hs5 k10 k12 hEs
        go_upto_region 17 with (fail)
        go_wp2_with (go_at_call 51; refine HR.out.1.mono ?_; rintro e w6 ⟨rfl, hb6, hG6⟩; rw [← HR.out.2.2.2.2.1] at hb6 hG6; have hb66 := HR.out.2.2.2.1.trans (hb6.mono HR.out.2.2.2.1.size); have hof : w6.frozen? ⟨b + 3, k, none⟩ = false := (HR.out.2.2.1.below hb66).ofrozen k; have hoc : w6.cell? ⟨b + 3, k, none⟩ = some (.slice none 0 0) := (by rw [cell_of_row _ _ _ _ _ _ (HR.out.2.2.1.below hb66).out, List.getElem?_toArray, outT_get _ _ _ _ (by omega), if_neg (Nat.lt_irrefl k)]); have H6 := Lib.hid (And.intro hb66 hG6); clear hb6 hG6 hb66)
        go_roundw
        case rel =>
          have hT6 := HR.out.2.2.1.below H6.out.1
          have hlt6 := lt_of_heap H6.out.2
          have h5s := HR.out.2.2.2.2.2
          refine ⟨k + 1, by omega, by go_num, ?_, pushB bs k w5.heap.size, ?_⟩
          · exact (HR.out.2.1.trans (H6.out.1.mono (by have := HR.out.2.1.size; have := HE4.out.2.2.1; omega))).setCell (Nat.le_refl _) _
          · rw [← h5s]
            exact hT6.push (by omega) H6.out.2 (by omega) (fun m hm e => by have := lt_of_heap (HR.out.2.2.1.row m hm); omega) (by omega)
        case measure => simp [RowKit.intOf]; omega
      · obtain rfl : k = M + 1 := by omega
        have HR := Lib.hid (And.intro hbw hT)
        clear x10 x12a x12b hbw hT k10 k12
        go_wp2_with (fail)
        go_meet
        exact ⟨HR.out.1, _, HR.out.2⟩
  case rest =>
  obtain ⟨hbc, bs, hTc⟩ := hcut
  have hs4 := HE4.out.2.2.1
  have k10 := (hbc.block _ (by have := lt_of_heap HE4.out.1.c10; omega)).trans HE4.out.1.c10
  clear x10 x12a x12b
  have x10 := one_at k10
  obtain ⟨hsl0, hgo0⟩ := hTc.sl (m := 0) (by omega) (by omega)
  obtain ⟨hv0a, hv0b, hbs0⟩ := hTc.val (m := 0) (i := L.length) (by omega) (Nat.le_refl _)
  have hfz0 := fun j => hTc.frozen (m := 0) (by omega) j
  have hT1 : TabK ((wc.setCell ⟨bs 0, L.length * 2, none⟩ (.int .i64 0)).setCell ⟨bs 0, L.length * 2 + 1, none⟩ (.int .i64 0)) (b + 3) (b + 3) bs M L.length (M + 1) (tabM L u 1) := by
    have h := hTc.set (m := 0) (i := L.length) (by omega) (Nat.le_refl _) 0
    rw [arOf_0] at h
    exact h.congr fun m _ i _ => tab_first L u m i
  obtain ⟨V7, hV7⟩ : ∃ V7, V7 = ((wc.setCell ⟨bs 0, L.length * 2, none⟩ (.int .i64 0)).setCell ⟨bs 0, L.length * 2 + 1, none⟩ (.int .i64 0)).drew := ⟨_, rfl⟩
  have hT7 : TabK V7 (b + 3) (b + 3) bs M L.length (M + 1) (tabM L u 1) := by rw [hV7]; exact ⟨hT1.out, hT1.row, hT1.inj, hT1.ne, hT1.lo0, hT1.lo1⟩
  have hb7 : Below (b + 3) V4 V7 := by
    rw [hV7]
    exact below_drew (below_set2' hbc (hTc.lo1 0 (by omega)) _ _ _ _)
  have n10 : V7.cell? ⟨b + 1, 0, none⟩ = some (.int .i64 (L.length : Int)) := one_at ((hb7.block _ (by have := lt_of_heap HE4.out.1.c10; omega)).trans HE4.out.1.c10)
  have nsl := (hT7.sl (m := 0) (by omega) (by omega)).1
  have H7 := Lib.hid (And.intro hT7 (And.intro hb7 hV7))
  rw [hV7] at n10 nsl
  clear hbc hTc hs4 k10 hT1 hT7 hb7 hV7
  go_upto_region 19 with (fail)
  have qn1 : (L.length : Int) < (L.length : Int) + 1 := by omega
  have qn2 : L.length < L.length + 1 := by omega
  go_region_held3 (fun w' => w'.cell? ⟨b + 3, 0, none⟩ = some (.slice (some ⟨bs 0, 0, none⟩) (L.length + 1) (L.length + 1)) ∧ w'.cell? ⟨b + 1, 0, none⟩ = some (.int .i64 (L.length : Int)))
    (first | exact ⟨hsl0, x10⟩ | exact ⟨nsl, n10⟩) (first | (fail))
  all_goals
    rw [← H7.out.2.2]
    clear n10 nsl hsl0 hgo0 hv0a hv0b hbs0 hfz0 x10
    have hE := HX.out.2.2.2.2.2.2
    go_upto_block 3 with (fail)
    go_cut [15, 16, 17, 18, 19, 20] from 97 to 172 (fun _ _ _ _ _ _ wx => Below (b + 3) V4 wx ∧ TabK wx (b + 3) (b + 3) bs M L.length (M + 1) (tabM L u (M + 1)))
    case first =>
      go_wp2_with (fail)
      go_loopw [15] (fun m wr => ∃ (k : Nat), 1 ≤ k ∧ k ≤ M + 1 ∧ m = .int .i64 (k : Int) ∧ Below (b + 3) V4 wr ∧ TabK wr (b + 3) (b + 3) bs M L.length (M + 1) (tabM L u k)) (fun m _ => M + 1 - (RowKit.intOf m).toNat)
      case atStart => exact ⟨1, Nat.le_refl _, by omega, rfl, H7.out.2.1, H7.out.1⟩
      case round =>
        obtain ⟨k, hk1, hk2, rfl, hbw, hT⟩ := hrel
        obtain ⟨wA, hwA⟩ : ∃ wA, wA = wr := ⟨_, rfl⟩
        subst hwA
        have x10 : wA.cell? ⟨b + 1, 0, none⟩ = some (.int .i64 (L.length : Int)) := one_at ((hbw.block _ (by have := lt_of_heap HE4.out.1.c10; have := HE4.out.2.2.1; omega)).trans HE4.out.1.c10)
        have HA := Lib.hid (And.intro hbw hT)
        clear hbw hT
        by_cases hkM : k ≤ M
        · go_wp2_with (fail)
          go_loopw [103] (fun i wr => ∃ (i' : Nat), i' ≤ L.length ∧ i = .int .i64 (i' : Int) ∧ Below (b + 3) V4 wr ∧ TabK wr (b + 3) (b + 3) bs M L.length (M + 1) (tabI L u k i')) (fun i _ => L.length - (RowKit.intOf i).toNat)
          case atStart => exact ⟨0, Nat.zero_le _, rfl, HA.out.1, HA.out.2.congr fun m _ q _ => tab_row L u k m q⟩
          case round =>
            obtain ⟨i, hi, rfl, hbw, hT⟩ := hrel
            obtain ⟨wB, hwB⟩ : ∃ wB, wB = wr := ⟨_, rfl⟩
            subst hwB
            have HB := Lib.hid (And.intro hbw hT)
            clear hbw hT x10
            by_cases hil : i < L.length
            · have hili : (i : Int) < (L.length : Int) := by omega
              go_wp2_with (fail)
              go_loopw [17, 18] (fun h j wr => ∃ (d : Nat), i + d ≤ L.length ∧ h = .int .i64 (hiV L i d) ∧ j = .int .i64 ((i + d : Nat) : Int) ∧ Below (b + 3) V4 wr ∧ TabK wr (b + 3) (b + 3) bs M L.length (M + 1) (tabJ L u k i d)) (fun _ j _ => L.length - (RowKit.intOf j).toNat)
              case atStart => exact ⟨0, by omega, rfl, rfl, HB.out.1, HB.out.2.congr fun m _ q _ => tab_start L u k i m q⟩
              case round =>
                obtain ⟨d, hd, rfl, rfl, hbw, hT⟩ := hrel
                obtain ⟨jn, hjn⟩ : ∃ jn, jn = i + d := ⟨_, rfl⟩
                rw [← hjn] at hd ⊢
                have hEw : EnvD (some ⟨g, o, none⟩) c L u (W.heap.size + 1) (W.heap.size + 1 + 1) b (b + 1) (b + 2) wr := HE4.out.1.below (by rw [HE4.out.2.2.1]; exact hbw)
                have x10 := one_at hEw.c10
                by_cases hjl : jn < L.length
                · have hjli : (jn : Int) < (L.length : Int) := by omega
                  have x9 := one_at hEw.c9
                  obtain ⟨x12a, x12b⟩ := two_at hEw.c12
                  obtain ⟨g', o', eg, hgw, d0, d1⟩ := hEw.row.s2 hjl
                  injection eg with eg; injection eg with e1 e2 _
                  subst e1; subst e2
                  obtain ⟨g', o', eg, _, a0, _⟩ := hEw.row.s2 hil
                  injection eg with eg; injection eg with e1 e2 _
                  subst e1; subst e2
                  have hk1M : k - 1 ≤ M := by omega
                  obtain ⟨t1, _⟩ := hT.sl (m := k - 1) (by omega) hk1M
                  obtain ⟨r0, r1, hbk⟩ := hT.val (m := k - 1) (i := jn + 1) (by omega) (by omega)
                  have htab : tabJ L u k i d (k - 1) (jn + 1) = lv L u (k - 1) (jn + 1) := by unfold tabJ; rw [if_pos (by omega)]
                  rw [htab] at r0 r1
                  obtain ⟨r, hr⟩ : ∃ r, r = lv L u (k - 1) (jn + 1) := ⟨_, rfl⟩
                  rw [← hr] at r0 r1
                  obtain ⟨rh, hrh⟩ : ∃ rh, rh = (arOf r).h := ⟨_, rfl⟩
                  obtain ⟨rl, hrl⟩ : ∃ rl, rl = (arOf r).l := ⟨_, rfl⟩
                  rw [← hrh] at r0
                  rw [← hrl] at r1
                  have hhi : hiV L i (d + 1) = max (hiV L i d) (sm L jn).v := by rw [hjn]; rfl
                  obtain ⟨v, hv⟩ : ∃ v, v = (sm L jn).v := ⟨_, rfl⟩
                  obtain ⟨h1, hh1⟩ : ∃ h1, h1 = hiV L i (d + 1) := ⟨_, rfl⟩
                  obtain ⟨h0, hh0⟩ : ∃ h0, h0 = hiV L i d := ⟨_, rfl⟩
                  rw [← hv] at d1 hhi
                  rw [← hh1, ← hh0] at hhi
                  have hmx : max h0 v = h1 := hhi.symm
                  obtain ⟨ai, hai⟩ : ∃ ai, ai = (sm L i).a := ⟨_, rfl⟩
                  rw [← hai] at a0
                  have qk0 : (0 : Int) ≤ (k : Int) - 1 := by omega
                  have qk1 : ((k : Int) - 1).toNat = k - 1 := by omega
                  have qk2 : (k : Int) - 1 < (M : Int) + 1 := by omega
                  have qj0 : (0 : Int) ≤ (jn : Int) + 1 := by omega
                  have qj1 : ((jn : Int) + 1).toNat = jn + 1 := by omega
                  have qj2 : (jn : Int) + 1 < (L.length : Int) + 1 := by omega
                  have hszw : b + 3 ≤ wr.heap.size := by have := hbw.size; have := HE4.out.2.2.1; omega
                  have l10 := lt_of_heap hEw.c10
                  have l12 := lt_of_heap hEw.c12
                  have HJ := Lib.hid (And.intro hbw (And.intro hT (And.intro hEw (And.intro hjn (And.intro hr (And.intro hrh (And.intro hrl (And.intro hh1 (And.intro hh0 hai)))))))))
                  rw [← hh0]
                  clear hbw hT hEw hjn htab hhi hh1 hh0 hv hai
                  by_cases hne : r = nonE
                  · have hl : lvK L u (lv L u (k - 1)) i (d + 1) = lvK L u (lv L u (k - 1)) i d := by
                      rw [lvK, if_pos (by rw [← HJ.out.2.2.2.1, ← HJ.out.2.2.2.2.1]; exact hne)]
                    have e1 : rh = -1 := by rw [hrh, hne, arOf_none]
                    have e2 : rl = 0 := by rw [hrl, hne, arOf_none]
                    have HL := Lib.hid hl
                    subst e1
                    subst e2
                    clear hl hne hr hrh hrl
                    go_wp2_with (fail)
                    go_roundw
                    case rel =>
                      have hj := HJ.out.2.2.2.1
                      refine ⟨d + 1, by omega, by rw [HJ.out.2.2.2.2.2.2.2.1], ?_, HJ.out.1.trans ((below_box wr _).mono hszw), (HJ.out.2.1.below (below_box wr _)).congr fun m _ q _ => tab_same L u HL.out m q⟩
                      rw [hj]; rfl
                    case measure => simp [RowKit.intOf]; omega
                  · have hrb := lv_bd hE (k - 1) (jn + 1) (by omega)
                    rw [← hr] at hrb
                    have hrb := hrb.resolve_left hne
                    have hr24 : r ≤ 1000000000000000000000000 := by
                      have h1 := hE.end_le (jn + 1)
                      have h2 := hE.u1
                      have h3 := Int.mul_le_mul_of_nonneg_left (show u - endT L u (jn + 1) ≤ 1000000000000 by omega) (show (0 : Int) ≤ 1000000000000 by omega)
                      omega
                    have hrok := arOf_ok hrb.1 hr24
                    have hcb := cost_bd hE (show i < jn + 1 by have := HJ.out.2.2.2.1; omega) (show jn + 1 ≤ L.length by omega)
                    have hend := hE.end_at (show i < jn + 1 by have := HJ.out.2.2.2.1; omega) (show jn + 1 ≤ L.length by omega)
                    have heu := hE.end_u (jn + 1)
                    have hcost : costV L u i (jn + 1) = h1 * (endT L u (jn + 1) - ai) := by
                      unfold costV
                      rw [HJ.out.2.2.2.2.2.2.2.1, HJ.out.2.2.2.2.2.2.2.2.2, HJ.out.2.2.2.1]
                      congr 2; omega
                    have hai0 : 0 ≤ ai := by rw [HJ.out.2.2.2.2.2.2.2.2.2]; exact (hE.ok.ok _ (sm_mem hil)).a0
                    have hiai : (sm L i).a = ai := HJ.out.2.2.2.2.2.2.2.2.2.symm
                    have hh1b := hiV_bd hE.ok.ok i (d + 1) (by have := HJ.out.2.2.2.1; omega)
                    rw [← HJ.out.2.2.2.2.2.2.2.1] at hh1b
                    have hu1 := hE.u1
                    rw [hiai] at hcb hend
                    have hjend := Lib.hid hE
                    obtain ⟨en, hen⟩ : ∃ en, en = endT L u (jn + 1) := ⟨_, rfl⟩
                    rw [← hen] at hcost hcb hend heu
                    obtain ⟨cs, hcs⟩ : ∃ cs, cs = costV L u i (jn + 1) := ⟨_, rfl⟩
                    rw [← hcs] at hcost hcb
                    have hcs24 : cs ≤ 1000000000000000000000000 := by omega
                    have hcok := arOf_ok hcb.1 hcs24
                    have HPR := Lib.hid (fun V => product_ok h1 (en - ai) hh1b.1 hh1b.2 (by omega) (by omega) V)
                    rw [arOf_prod, ← hcost] at HPR
                    have HPL := Lib.hid (fun V => plus_ok (arOf cs) (arOf r) V ⟨hcok.h0, by have := hcok.h1; omega, hcok.l0, hcok.l1⟩ ⟨hrok.h0, by have := hrok.h1; omega, hrok.l0, hrok.l1⟩)
                    rw [arOf_plus] at HPL
                    obtain ⟨x, hx⟩ : ∃ x, x = cs + r := ⟨_, rfl⟩
                    rw [← hx] at HPL
                    obtain ⟨w9, hw9⟩ : ∃ w9, w9 = wr.alloc (.cells #[.int .i64 rh, .int .i64 rl] 31) := ⟨_, rfl⟩
                    have hb9 : Below wr.heap.size wr w9 := by rw [hw9]; exact below_box wr _
                    have hE9 := HJ.out.2.2.1.below hb9
                    have hp9 : w9.heap[wr.heap.size]? = some (.cells #[.int .i64 rh, .int .i64 rl] 31 (0, 0)) := by rw [hw9]; exact new_at wr _
                    have hEND := fun (V : World) (hV : Below w9.heap.size w9 V) => end_ok (some ⟨g, o, none⟩) c L u (b + 1) b (W.heap.size + 1) V jn hjl hlen (one_at (hE9.below hV).c10) (one_at (hE9.below hV).c9) (one_at (hE9.below hV).c4) (hE9.below hV).row
                    rw [← hen] at hEND
                    have HEND := Lib.hid hEND
                    obtain ⟨p, hp⟩ : ∃ p, p = wr.heap.size := ⟨_, rfl⟩
                    obtain ⟨y0, y1⟩ := two_at hp9
                    rw [← hp] at y0 y1
                    have y9 := cell_keep2 hb9 x9
                    have ya := cell_keep2 hb9 a0
                    have y12a := cell_keep2 hb9 x12a
                    have y12b := cell_keep2 hb9 x12b
                    rw [← hrh, ← hrl] at HPL
                    have hrh0 : 0 ≤ rh := by rw [hrh]; exact hrok.h0
                    have enb : 0 < en - ai ∧ en ≤ 1000000000000 := by omega
                    obtain ⟨enb0, enb1⟩ := enb
                    have wq : IntKind.i64.wrap (en - ai) = en - ai := IntWalk.i64_in _ (by omega)
                    have wq2 : wrap64 (en - ai) = en - ai := IntWalk.wrap64_in _ (by omega)
                    have hrhn : (rh == -1) = false := beq_false_of_ne (by omega)
                    have H9 := Lib.hid (And.intro hb9 (And.intro hE9 (And.intro hp9 (And.intro hp (And.intro hw9 (And.intro hx (And.intro hcs hen)))))))
                    have hrne := Lib.hid (And.intro hne (And.intro hr (And.intro hrh hrl)))
                    have hHrb := Lib.hid (And.intro hcb hrb)
                    clear hEND hb9 hE9 hp9 hx hcs hen hne hr hrh hrl hcost hcok hrok hcb hrb hr24 hcs24 hend heu hiai hai0
                    go_upto_region 32 with (fail)
                    rw [← hw9, ← hp]
                    clear hw9 hp
                    go_wp2_with (fail)
                    go_upto_region 33 with (fail)
                    rw [show Op.alloc 31 = opA20 from rfl]
                    go_cut [20] from 131 to 143 (fun q wx => ∃ p20, q = .pointer (some ⟨p20, 0, none⟩) ∧ w9.heap.size ≤ p20 ∧ wx.heap[p20]? = some (.cells #[.int .i64 (arOf x).h, .int .i64 (arOf x).l] 31 (0, 0)) ∧ Below w9.heap.size w9 wx)
                    case first =>
                      have s1 : Below w9.heap.size w9 w9.drew ∧ w9.drew.cell? ⟨b, 0, none⟩ = some (.slice (some ⟨g, o, none⟩) L.length c) ∧ w9.drew.cell? ⟨g, o + i * 2, none⟩ = some (.int .i64 ai) ∧ w9.drew.cell? ⟨p, 0, none⟩ = some (.int .i64 rh) ∧ w9.drew.cell? ⟨p, 1, none⟩ = some (.int .i64 rl) := ⟨below_drew (Below.refl _ _), y9, ya, y0, y1⟩
                      have hrun : Below w9.heap.size w9 w9.drew := below_drew (Below.refl _ _)
                      have lb := World.block_lt_of_cell? w9 _ y9
                      have lg := World.block_lt_of_cell? w9 _ ya
                      have lp := World.block_lt_of_cell? w9 _ y0
                      have HLT := Lib.hid (And.intro lb (And.intro lg lp))
                      clear lb lg lp
                      go_region_held3 (fun w' => Below w9.heap.size w9 w' ∧ w'.cell? ⟨b, 0, none⟩ = some (.slice (some ⟨g, o, none⟩) L.length c) ∧ w'.cell? ⟨g, o + i * 2, none⟩ = some (.int .i64 ai) ∧ w'.cell? ⟨p, 0, none⟩ = some (.int .i64 rh) ∧ w'.cell? ⟨p, 1, none⟩ = some (.int .i64 rl))
                        (first | assumption | (with_reducible exact S5v.set (by assumption) hgp HLT.out.1 HLT.out.2.1 HLT.out.2.2) | exact S5v.below (by assumption) hb4 | exact S5v.below (by assumption) hb5 | exact S5v.below (by assumption) hb20)
                        (first | (go_at_call 50; ((with_reducible refine (HEND.out _ (And.left (by assumption))).mono ?_); rintro e wq ⟨rfl, hw⟩; have hw := hw.symm; subst hw)) | (go_at_call 53; ((with_reducible refine (HPR.out _).mono ?_); rintro e w4 ⟨rfl, hb4⟩; replace hrun := hrun.trans (hb4.mono hrun.size); (try replace hz20 := (hb4.block p20 (lt_of_heap hz20)).trans hz20))) | (go_at_call 52; ((with_reducible refine (HPL.out _).mono ?_); rintro e w5 ⟨rfl, hb5⟩; replace hrun := hrun.trans (hb5.mono hrun.size); (try replace hz20 := (hb5.block p20 (lt_of_heap hz20)).trans hz20); (try (obtain ⟨q0, q1⟩ := two_at hz20; have qf := fun j => frozen_plain hz20 j)))) | (refine wp_alloc_A ?_ ?_; (exact rfl); intro p20 V20 hz20 hp20 hb20; have hgp := Nat.le_trans hrun.size hp20; replace hrun := hrun.trans (hb20.mono hrun.size); (try (have _z := hb5; obtain ⟨q0, q1⟩ := two_at hz20; have qf := fun j => frozen_plain hz20 j; clear _z))))
                      all_goals
                        (try go_wp2_with (fail))
                        go_meet
                        exact ⟨p20, rfl, hgp, set2 hz20, below_set2' hrun hgp _ _ _ _⟩
                    case rest =>
                      obtain ⟨p20, rfl, hp20, hz20, hbx⟩ := hcut
                      obtain ⟨wD, hwD⟩ : ∃ wD, wD = wc := ⟨_, rfl⟩
                      subst hwD
                      have hbr := H9.out.1.trans (hbx.mono H9.out.1.size)
                      have hTD := HJ.out.2.1.below hbr
                      have hED := HJ.out.2.2.1.below hbr
                      obtain ⟨z1, z0⟩ := hTD.sl (m := k) (by omega) hkM
                      obtain ⟨zv0, zv1, zvl⟩ := hTD.val (m := k) (i := i) (by omega) (by omega)
                      have hcvt : tabJ L u k i d k i = lvK L u (lv L u (k - 1)) i d := by unfold tabJ; rw [if_neg (Nat.lt_irrefl _), if_neg (by omega), if_pos ⟨rfl, rfl⟩]
                      rw [hcvt] at zv0 zv1
                      obtain ⟨cv, hcv⟩ : ∃ cv, cv = lvK L u (lv L u (k - 1)) i d := ⟨_, rfl⟩
                      rw [← hcv] at zv0 zv1
                      have hcvb := lvK_bd hE (fun e he => lv_bd hE (k - 1) e he) hil d (by have := HJ.out.2.2.2.1; omega)
                      rw [← hcv] at hcvb
                      obtain ⟨ch, hch⟩ : ∃ ch, ch = (arOf cv).h := ⟨_, rfl⟩
                      obtain ⟨cl, hcl⟩ : ∃ cl, cl = (arOf cv).l := ⟨_, rfl⟩
                      obtain ⟨xh, hxh⟩ : ∃ xh, xh = (arOf x).h := ⟨_, rfl⟩
                      obtain ⟨xl, hxl⟩ : ∃ xl, xl = (arOf x).l := ⟨_, rfl⟩
                      rw [← hch] at zv0
                      rw [← hcl] at zv1
                      rw [← hxh, ← hxl] at hz20
                      obtain ⟨m0, m1⟩ := two_at hz20
                      obtain ⟨n0, n1⟩ := two_at hED.c12
                      have HCM := Lib.hid (fun V => compare_ok (arOf x) (arOf cv) V)
                      rw [← hxh, ← hxl, ← hch, ← hcl] at HCM
                      have hcml := cmpA_lt (a := x) (b := cv)
                      have hnew : lvK L u (lv L u (k - 1)) i (d + 1) = if cv = nonE ∨ x < cv then x else cv := by
                        have e1 : lv L u (k - 1) (i + d + 1) = r := by rw [← HJ.out.2.2.2.1]; exact hrne.out.2.1.symm
                        have e2 : costV L u i (i + d + 1) = x - r := by rw [H9.out.2.2.2.2.2.1, H9.out.2.2.2.2.2.2.1, ← HJ.out.2.2.2.1]; omega
                        rw [lvK, e1, if_neg hrne.out.1, e2, ← hcv, show x - r + r = x by omega]
                      have hp20b : bs k ≠ p20 ∧ b + 3 ≠ p20 := by
                        have h1 := lt_of_heap (HJ.out.2.1.row k (by omega))
                        have h2 := lt_of_heap HJ.out.2.1.out
                        have h3 := H9.out.1.size
                        omega
                      have HD := Lib.hid (And.intro hbr (And.intro hTD (And.intro hED (And.intro hz20 (And.intro hcml (And.intro hnew (And.intro hp20b hcvb)))))))
                      have HDV := Lib.hid (And.intro hcv (And.intro hch (And.intro hcl (And.intro hxh hxl))))
                      clear hbr hTD hED hz20 hcml hnew hp20b hcvb hcvt hcv hch hcl hxh hxl hbx y0 y1 y9 ya y12a y12b x9 x12a x12b a0 t1 r0 r1 d0 d1 x10
                      go_upto_region 34 with (fail)
                      go_cut [164] from 144 to 163 (fun q wx => q = .bool (decide (cv = nonE ∨ x < cv)) ∧ Below wD.heap.size wD wx)
                      case first =>
                        have hsl : wD.cell? ⟨b + 3, k, none⟩ = some (.slice (some ⟨bs k, 0, none⟩) (L.length + 1) (L.length + 1)) := z1
                        by_cases hcn : cv = nonE
                        · have e1 : ch = -1 := by rw [HDV.out.2.1, hcn, arOf_none]
                          have e2 : cl = 0 := by rw [HDV.out.2.2.1, hcn, arOf_none]
                          have hdt : decide (cv = nonE ∨ x < cv) = true := decide_eq_true (.inl hcn)
                          subst e1
                          subst e2
                          have HN := Lib.hid hcn
                          clear hcn
                          have HDT := Lib.hid hdt
                          clear hdt
                          go_quiet (fail)
                          (try go_wp2_with (fail))
                          go_meet
                          exact ⟨by rw [HDT.out], below_drewN (Below.refl _ _) _⟩
                        · have hcb := HD.out.2.2.2.2.2.2.2.resolve_left hcn
                          have hch0 : (ch == -1) = false := beq_false_of_ne (by rw [HDV.out.2.1]; unfold arOf; dsimp only; omega)
                          obtain ⟨cm, hcm⟩ : ∃ cm, cm = cmpA (arOf x) (arOf cv) := ⟨_, rfl⟩
                          rw [← hcm] at HCM
                          have hcml := HD.out.2.2.2.2.1
                          rw [← hcm] at hcml
                          have hdt : decide (cv = nonE ∨ x < cv) = decide (cm < 0) := by
                            rw [decide_eq_decide]
                            exact ⟨fun h => hcml.2 (h.resolve_left hcn), fun h => .inr (hcml.1 h)⟩
                          have HN := Lib.hid (And.intro hcn (And.intro hcm hdt))
                          clear hcn hcm hcml hdt hcb
                          have s1 : Below wD.heap.size wD wD.drew ∧ wD.drew.cell? ⟨b + 3, k, none⟩ = some (.slice (some ⟨bs k, 0, none⟩) (L.length + 1) (L.length + 1)) ∧ wD.drew.cell? ⟨bs k, i * 2, none⟩ = some (.int .i64 ch) ∧ wD.drew.cell? ⟨bs k, i * 2 + 1, none⟩ = some (.int .i64 cl) ∧ wD.drew.cell? ⟨b + 2, 0, none⟩ = some (.int .i64 (-1)) ∧ wD.drew.cell? ⟨b + 2, 1, none⟩ = some (.int .i64 0) ∧ wD.drew.cell? ⟨p20, 0, none⟩ = some (.int .i64 xh) ∧ wD.drew.cell? ⟨p20, 1, none⟩ = some (.int .i64 xl) := ⟨below_drew (Below.refl _ _), z1, zv0, zv1, n0, n1, m0, m1⟩
                          have hrun : Below wD.heap.size wD wD.drew := below_drew (Below.refl _ _)
                          have wb1 : (0 : Int) ≤ (k : Int) := by omega
                          have wb2 : (k : Int) < (M : Int) + 1 := by omega
                          have wb3 : (0 : Int) ≤ (i : Int) := by omega
                          have wb4 : (i : Int) < (L.length : Int) + 1 := by omega
                          go_region_held3 (fun w' => Below wD.heap.size wD w' ∧ w'.cell? ⟨b + 3, k, none⟩ = some (.slice (some ⟨bs k, 0, none⟩) (L.length + 1) (L.length + 1)) ∧ w'.cell? ⟨bs k, i * 2, none⟩ = some (.int .i64 ch) ∧ w'.cell? ⟨bs k, i * 2 + 1, none⟩ = some (.int .i64 cl) ∧ w'.cell? ⟨b + 2, 0, none⟩ = some (.int .i64 (-1)) ∧ w'.cell? ⟨b + 2, 1, none⟩ = some (.int .i64 0) ∧ w'.cell? ⟨p20, 0, none⟩ = some (.int .i64 xh) ∧ w'.cell? ⟨p20, 1, none⟩ = some (.int .i64 xl))
                            (first | assumption | exact S8v.below (by assumption) hb4)
                            (first | (go_at_call 54; ((with_reducible refine (HCM.out _).mono ?_); rintro e w4 ⟨rfl, hb4⟩; replace hrun := hrun.trans (hb4.mono hrun.size))))
                          all_goals
                            (try go_wp2_with (fail))
                            go_meet
                            exact ⟨by rw [HN.out.2.2], hrun⟩
                      case rest =>
                        obtain ⟨rfl, hbx⟩ := hcut
                        obtain ⟨wF, hwF⟩ : ∃ wF, wF = wc := ⟨_, rfl⟩
                        subst hwF
                        have hTF := HD.out.2.1.below hbx
                        have hz20 := (hbx.block _ (lt_of_heap HD.out.2.2.2.1)).trans HD.out.2.2.2.1
                        have hVb : Below (b + 3) V4 wF := HJ.out.1.trans ((HD.out.1.trans (hbx.mono HD.out.1.size)).mono hszw)
                        by_cases hup : cv = nonE ∨ x < cv
                        · have hdt : decide (cv = nonE ∨ x < cv) = true := decide_eq_true hup
                          rw [hdt]
                          have hTS := hTF.set (m := k) (i := i) (by omega) (by omega) x
                          have hnew := HD.out.2.2.2.2.2.1
                          rw [if_pos hup] at hnew
                          rw [← HDV.out.2.2.2.1, ← HDV.out.2.2.2.2] at hTS
                          obtain ⟨f1, f0⟩ := hTF.sl (m := k) (by omega) hkM
                          obtain ⟨fv0, fv1, fvl⟩ := hTF.val (m := k) (i := i) (by omega) (by omega)
                          have ffz := fun j => hTF.frozen (m := k) (by omega) j
                          obtain ⟨m0', m1'⟩ := two_at hz20
                          obtain ⟨wS, hwS⟩ : ∃ wS, wS = ((wF.setCell ⟨bs k, i * 2, none⟩ (.int .i64 xh)).setCell ⟨bs k, i * 2 + 1, none⟩ (.int .i64 xl)).drew := ⟨_, rfl⟩
                          have hTS2 : TabK wS (b + 3) (b + 3) bs M L.length (M + 1) (tabJ L u k i (d + 1)) := by
                            have h := hTS.congr fun m _ q _ => tab_better L u hnew m q
                            rw [hwS]; exact ⟨h.out, h.row, h.inj, h.ne, h.lo0, h.lo1⟩
                          have hbS : Below (b + 3) V4 wS := by rw [hwS]; exact below_drew (below_set2' hVb (hTF.lo1 k (by omega)) _ _ _ _)
                          have kS : wS.cell? ⟨b + 3, k, none⟩ = some (.slice (some ⟨bs k, 0, none⟩) (L.length + 1) (L.length + 1)) ∧ wS.cell? ⟨p20, 0, none⟩ = some (.int .i64 xh) ∧ wS.cell? ⟨p20, 1, none⟩ = some (.int .i64 xl) := by
                            have hzS : wS.heap[p20]? = some (.cells #[.int .i64 xh, .int .i64 xl] 31 (0, 0)) := by
                              rw [hwS]
                              show ((wF.setCell ⟨bs k, i * 2, none⟩ (.int .i64 xh)).setCell ⟨bs k, i * 2 + 1, none⟩ (.int .i64 xl)).heap[p20]? = _
                              rw [setCell_far _ _ _ _ (by show p20 ≠ bs k; exact HD.out.2.2.2.2.2.2.1.1.symm), setCell_far _ _ _ _ (by show p20 ≠ bs k; exact HD.out.2.2.2.2.2.2.1.1.symm)]
                              exact hz20
                            exact ⟨(hTS2.sl (m := k) (by omega) hkM).1, two_at hzS⟩
                          have HS := Lib.hid (And.intro hTS2 (And.intro hbS hwS))
                          rw [hwS] at kS
                          clear hTF hz20 hVb hTS hnew hTS2 hbS hwS hup hdt hbx z1 zv0 zv1 n0 n1 m0 m1
                          go_upto_region 35 with (fail)
                          have wb1 : (0 : Int) ≤ (k : Int) := by omega
                          have wb2 : (k : Int) < (M : Int) + 1 := by omega
                          have wb3 : (0 : Int) ≤ (i : Int) := by omega
                          have wb4 : (i : Int) < (L.length : Int) + 1 := by omega
                          go_region_held3 (fun w' => w'.cell? ⟨b + 3, k, none⟩ = some (.slice (some ⟨bs k, 0, none⟩) (L.length + 1) (L.length + 1)) ∧ w'.cell? ⟨p20, 0, none⟩ = some (.int .i64 xh) ∧ w'.cell? ⟨p20, 1, none⟩ = some (.int .i64 xl))
                            (first | exact ⟨f1, m0', m1'⟩ | exact kS) (first | (fail))
                          all_goals
                            rw [← HS.out.2.2]
                            go_wp2_with (fail)
                            go_roundw
                            case rel =>
                              have hj := HJ.out.2.2.2.1
                              refine ⟨d + 1, by omega, by rw [HJ.out.2.2.2.2.2.2.2.1], ?_, HS.out.2.1, HS.out.1⟩
                              rw [hj]; rfl
                            case measure => simp [RowKit.intOf]; omega
                        · have hdt : decide (cv = nonE ∨ x < cv) = false := decide_eq_false hup
                          rw [hdt]
                          have hnew := HD.out.2.2.2.2.2.1
                          rw [if_neg hup, HDV.out.1] at hnew
                          have HS := Lib.hid (And.intro (hTF.congr fun m _ q _ => tab_same L u hnew m q) hVb)
                          clear hTF hz20 hVb hnew hup hdt hbx z1 zv0 zv1 n0 n1 m0 m1
                          go_wp2_with (fail)
                          go_roundw
                          case rel =>
                            have hj := HJ.out.2.2.2.1
                            refine ⟨d + 1, by omega, by rw [HJ.out.2.2.2.2.2.2.2.1], ?_, HS.out.2, HS.out.1⟩
                            rw [hj]; rfl
                          case measure => simp [RowKit.intOf]; omega
                · have hjn2 : d = L.length - i := by omega
                  have HJ := Lib.hid (And.intro hbw (And.intro hT hjn2))
                  have hjl2 : ¬ (jn : Int) < (L.length : Int) := by omega
                  clear hbw hT hEw hjn hjn2
                  go_wp2_with (fail)
                  go_roundw
                  case rel => exact ⟨i + 1, by omega, by go_num, HJ.out.1, HJ.out.2.1.congr fun m _ q _ => by rw [HJ.out.2.2]; exact tab_place L u hk1 m q⟩
                  case measure => simp [RowKit.intOf]; omega
            · obtain rfl : i = L.length := by omega
              go_wp2_with (fail)
              go_roundw
              case rel => exact ⟨k + 1, by omega, by omega, by go_num, HB.out.1, HB.out.2.congr fun m _ q hq => tab_end L u hk1 hq⟩
              case measure => simp [RowKit.intOf]; omega
        · obtain rfl : k = M + 1 := by omega
          go_wp2_with (fail)
          go_meet
          exact HA.out
    case rest =>
    obtain ⟨hbc, hTc⟩ := hcut
    obtain ⟨wE, hwE⟩ : ∃ wE, wE = wc := ⟨_, rfl⟩
    subst hwE
    have HC := Lib.hid (And.intro hbc hTc)
    have hMm : M = min most.toNat L.length := HE4.out.2.2.2.1
    have HMm := Lib.hid hMm
    clear hbc hTc hMm
    go_upto_block 9 with (fail)
    go_cut [21] from 174 to 193 (fun m wx => ∃ k : Nat, m = .int .i64 (k : Int) ∧ Few L u most.toNat k ∧ Below wE.heap.size wE wx)
    case first =>
      go_wp2_with (fail)
      go_loopw [21] (fun m wr => ∃ k : Nat, 1 ≤ k ∧ k ≤ M ∧ m = .int .i64 (k : Int) ∧ lv L u k 0 = lv L u M 0 ∧ Below wE.heap.size wE wr) (fun m _ => (RowKit.intOf m).toNat)
      case atStart => exact ⟨M, hM1, Nat.le_refl _, rfl, rfl, Below.refl _ _⟩
      case round =>
        obtain ⟨k, hk1, hkM, rfl, hke, hbw⟩ := hrel
        by_cases hk2 : 1 < k
        · have hk2i : (1 : Int) < (k : Int) := by omega
          have hTw := HC.out.2.below hbw
          obtain ⟨t1, t0⟩ := hTw.sl (m := k - 1) (by omega) (by omega)
          obtain ⟨u1', _⟩ := hTw.sl (m := M) (by omega) (by omega)
          obtain ⟨v0, v1, vl⟩ := hTw.val (m := k - 1) (i := 0) (by omega) (by omega)
          obtain ⟨y0, y1, yl⟩ := hTw.val (m := M) (i := 0) (by omega) (by omega)
          have e1 : tabM L u (M + 1) (k - 1) 0 = lv L u (k - 1) 0 := by unfold tabM; rw [if_pos (by omega)]
          have e2 : tabM L u (M + 1) M 0 = lv L u M 0 := by unfold tabM; rw [if_pos (by omega)]
          rw [e1, Nat.zero_mul] at v0 v1
          rw [e2, Nat.zero_mul] at y0 y1
          have qk0 : (0 : Int) ≤ (k : Int) - 1 := by omega
          have qk1 : ((k : Int) - 1).toNat = k - 1 := by omega
          have qk2 : (k : Int) - 1 < (M : Int) + 1 := by omega
          have qw : IntKind.i64.wrap ((k : Int) - 1) = (k : Int) - 1 := IntWalk.i64_in _ (by omega)
          have hdk : decide (1 < k) = true := decide_eq_true hk2
          have hdki : decide ((1 : Int) < (k : Int)) = true := decide_eq_true hk2i
          have hinj := arOf_inj (a := lv L u (k - 1) 0) (b := lv L u M 0)
          rw [ar_ext] at hinj
          obtain ⟨p, hp⟩ : ∃ p, p = (arOf (lv L u (k - 1) 0)).h := ⟨_, rfl⟩
          obtain ⟨p', hp'⟩ : ∃ p', p' = (arOf (lv L u (k - 1) 0)).l := ⟨_, rfl⟩
          obtain ⟨q, hq⟩ : ∃ q, q = (arOf (lv L u M 0)).h := ⟨_, rfl⟩
          obtain ⟨q', hq'⟩ : ∃ q', q' = (arOf (lv L u M 0)).l := ⟨_, rfl⟩
          rw [← hp] at v0
          rw [← hp'] at v1
          rw [← hq] at y0
          rw [← hq'] at y1
          rw [← hp, ← hp', ← hq, ← hq'] at hinj
          have HI := Lib.hid (And.intro hinj (And.intro hke hbw))
          clear hinj hp hp' hq hq' e1 e2 hke hbw hTw
          by_cases hpq : p = q
          · by_cases hpq' : p' = q'
            · subst hpq
              subst hpq'
              go_upto_region 38 with (fail)
              go_quiet (fail)
              clear qw
              go_wp2_with (fail)
              refine ⟨⟨k - 1, by omega, by omega, by rw [Int.natCast_sub hk1]; rfl, HI.out.1.1 ⟨rfl, rfl⟩, below_drewN HI.out.2.2 _⟩, by simp [RowKit.intOf]; omega⟩
            · have hf : (p' == q') = false := beq_false_of_ne hpq'
              have HF := Lib.hid hpq'
              subst hpq
              clear hpq'
              go_upto_region 38 with (fail)
              go_quiet (fail)
              clear qw
              go_wp2_with (fail)
              go_meet
              exact ⟨k, rfl, ⟨hk1, by rw [← HMm.out]; exact hkM, by rw [← HMm.out]; exact HI.out.2.1, .inr (by rw [← HMm.out]; exact fun h => HF.out (HI.out.1.2 h).2)⟩, below_drewN HI.out.2.2 _⟩
          · have hf : (p == q) = false := beq_false_of_ne hpq
            have HF := Lib.hid hpq
            clear hpq
            go_upto_region 38 with (fail)
            go_quiet (fail)
            clear qw
            go_wp2_with (fail)
            go_meet
            exact ⟨k, rfl, ⟨hk1, by rw [← HMm.out]; exact hkM, by rw [← HMm.out]; exact HI.out.2.1, .inr (by rw [← HMm.out]; exact fun h => HF.out (HI.out.1.2 h).1)⟩, below_drewN HI.out.2.2 _⟩
        · have hdk : decide (1 < k) = false := decide_eq_false hk2
          have hdki : decide ((1 : Int) < (k : Int)) = false := decide_eq_false (by omega)
          have HI := Lib.hid (And.intro hke hbw)
          clear hke hbw
          go_upto_region 38 with (fail)
          go_quiet (fail)
          go_wp2_with (fail)
          go_meet
          exact ⟨k, rfl, ⟨hk1, by rw [← HMm.out]; exact hkM, by rw [← HMm.out]; exact HI.out.1, .inl (by omega)⟩, below_drewN HI.out.2 _⟩
    case rest =>
    obtain ⟨k, rfl, hfew, hbw⟩ := hcut
    obtain ⟨wG, hwG⟩ : ∃ wG, wG = wc := ⟨_, rfl⟩
    subst hwG
    have hne := few_ex hE hn0 hfew
    obtain ⟨es, hgp⟩ := gp_ex k 0 hne
    obtain ⟨hel, hvp, _⟩ := gp_len hgp
    obtain ⟨x, hx, rfl⟩ := vp_ext hn0 hvp
    rw [ends_len hx] at hel
    have hbest := gp_best hE hn0 (show 0 < most.toNat by omega) hfew hx hgp
    have hst := starts_of hn0 hx
    have hk1 := hfew.m1
    have hkM : k ≤ M := by rw [HMm.out]; exact hfew.le
    have hgp0 : Gp L u (k - 0) (posE L x 0) ((endsOf L.length x).drop 0) := by rw [pos_zero hx]; exact hgp
    have hTG := HC.out.2.below hbw
    have hVG : Below (b + 3) V4 wG := HC.out.1.trans (hbw.mono (by have := HC.out.1.size; have := HE4.out.2.2.1; omega))
    have hEG := HE4.out.1.below (by rw [HE4.out.2.2.1]; exact hVG)
    obtain ⟨p22, hp22⟩ : ∃ p22, p22 = wG.heap.size := ⟨_, rfl⟩
    obtain ⟨w0, hw0⟩ : ∃ w0, w0 = wG.alloc (.cells #[.slice none 0 0] 24) := ⟨_, rfl⟩
    have hb0 : Below wG.heap.size wG w0 := by rw [hw0]; exact below_box wG _
    have hbx0 : Boxed w0 p22 24 (.slice none 0 0) := by rw [hw0, hp22]; exact Boxed.new wG 24 (.slice none 0 0)
    have x10 := one_at ((hb0.block _ (lt_of_heap hEG.c10)).trans hEG.c10)
    have HG := Lib.hid (And.intro hbest (And.intro hst (And.intro hel (And.intro hx (And.intro hTG (And.intro hVG (And.intro hEG (And.intro hp22 hw0))))))))
    have H0 := Lib.hid (And.intro hb0 (And.intro hbx0 hgp0))
    clear hbest hst hx hTG hVG hEG hb0 hbx0 hgp0 hgp hvp hne hfew hbw
    go_upto_region 41 with (fail)
    rw [← hw0, ← hp22]
    clear hw0 hp22
    go_wp2_with (fail)
    go_loopw [21, 23] (fun m i wr => ∃ (q : Nat) (A' : Option Addr) (c' : Nat), q ≤ k ∧ m = .int .i64 ((k - q : Nat) : Int) ∧ i = .int .i64 (posE L x q : Int) ∧ Gp L u (k - q) (posE L x q) ((endsOf L.length x).drop q) ∧ Below p22 wG wr ∧ Boxed wr p22 24 (.slice A' ((overS L x).take q).length c') ∧ OwnE Sx.es 2 wr p22 49 A' c' ((overS L x).take q)) (fun _ i _ => L.length - (RowKit.intOf i).toNat)
    case atStart => exact ⟨0, none, 0, Nat.zero_le _, rfl, by rw [pos_zero HG.out.2.2.2.1]; rfl, H0.out.2.2, by rw [HG.out.2.2.2.2.2.2.2.1]; exact H0.out.1, H0.out.2.1, owne_nil _ _ _⟩
    case round =>
      obtain ⟨q, A', c', hqk, rfl, rfl, hgq, hbw, hbx, hrow⟩ := hrel
      obtain ⟨wI, hwI⟩ : ∃ wI, wI = wr := ⟨_, rfl⟩
      subst hwI
      have hEI := HG.out.2.2.2.2.2.2.1.below (by rw [← HG.out.2.2.2.2.2.2.2.1]; exact hbw)
      have hTI := HG.out.2.2.2.2.1.below (by rw [← HG.out.2.2.2.2.2.2.2.1]; exact hbw)
      clear x10
      have x10 := one_at hEI.c10
      by_cases hqlt : q < k
      · obtain ⟨hF, hgn⟩ := gp_run HG.out.2.2.2.1 HG.out.2.2.1 hqlt hgq
        have hqx : q < x.length := by rw [HG.out.2.2.1]; exact hqlt
        obtain ⟨hpx, hpl⟩ := pos_lt HG.out.2.1 hqx
        have hov := over_take (L := L) hqx
        obtain ⟨i, hi⟩ : ∃ i, i = posE L x q := ⟨_, rfl⟩
        obtain ⟨en, hen⟩ : ∃ en, en = posE L x (q + 1) := ⟨_, rfl⟩
        obtain ⟨m1, hm1⟩ : ∃ m1, m1 = k - q - 1 := ⟨_, rfl⟩
        have hkq : ((k - q : Nat) : Int) = (m1 : Int) + 1 := by omega
        rw [← hi, ← hen] at hov
        rw [← hi, ← hen, ← hm1] at hF
        rw [← hi] at hpl
        rw [← hi, hkq]
        have hli := hF.lt; have hle := hF.le
        have hili : (i : Int) < (L.length : Int) := by omega
        have hm1M : m1 < M := by omega
        have HI := Lib.hid (And.intro hF (And.intro hgn (And.intro hov (And.intro hi (And.intro hen (And.intro hm1 (And.intro hbw (And.intro hbx (And.intro hrow (And.intro hEI hTI))))))))))
        have hszI : b + 3 ≤ wI.heap.size := by have h1 := hbw.size; have h2 := HG.out.2.2.2.2.2.1.size; have h3 := HE4.out.2.2.1; omega
        clear hF hgn hov hi hen hm1 hkq hbw hbx hrow hEI hTI hgq hpx hqx
        go_wp2_with (fail)
        go_loopw [23, 24, 25] (fun ii h j wr => ∃ jn : Nat, ii = .int .i64 (i : Int) ∧ i ≤ jn ∧ jn < en ∧ h = .int .i64 (hiV L i (jn - i)) ∧ j = .int .i64 (jn : Int) ∧ Below wI.heap.size wI wr) (fun _ _ j _ => L.length - (RowKit.intOf j).toNat)
        case atStart => exact ⟨i, rfl, Nat.le_refl _, hli, by rw [Nat.sub_self]; rfl, rfl, Below.refl _ _⟩
        case round =>
          obtain ⟨jn, rfl, hij, hjn, rfl, rfl, hbr⟩ := hrel
          have hEw := HI.out.2.2.2.2.2.2.2.2.2.1.below hbr
          have hTw := HI.out.2.2.2.2.2.2.2.2.2.2.below hbr
          have hjl : jn < L.length := by omega
          have hjli : (jn : Int) < (L.length : Int) := by omega
          clear x10
          have x10 := one_at hEw.c10
          have x9 := one_at hEw.c9
          obtain ⟨x12a, x12b⟩ := two_at hEw.c12
          obtain ⟨g', o', eg, hgw, d0, d1⟩ := hEw.row.s2 hjl
          injection eg with eg; injection eg with e1 e2 _
          subst e1; subst e2
          obtain ⟨g', o', eg, _, a0, _⟩ := hEw.row.s2 hpl
          injection eg with eg; injection eg with e1 e2 _
          subst e1; subst e2
          obtain ⟨t1, _⟩ := hTw.sl (m := m1) (by omega) (by omega)
          obtain ⟨z1, _⟩ := hTw.sl (m := m1 + 1) (by omega) (by omega)
          obtain ⟨r0, r1, hbk⟩ := hTw.val (m := m1) (i := jn + 1) (by omega) (by omega)
          obtain ⟨v0, v1, hbk2⟩ := hTw.val (m := m1 + 1) (i := i) (by omega) (by omega)
          have e1 : tabM L u (M + 1) m1 (jn + 1) = lv L u m1 (jn + 1) := by unfold tabM; rw [if_pos (by omega)]
          have e2 : tabM L u (M + 1) (m1 + 1) i = lv L u (m1 + 1) i := by unfold tabM; rw [if_pos (by omega)]
          rw [e1] at r0 r1
          rw [e2] at v0 v1
          obtain ⟨r, hr⟩ : ∃ r, r = lv L u m1 (jn + 1) := ⟨_, rfl⟩
          obtain ⟨tv, htv⟩ : ∃ tv, tv = lv L u (m1 + 1) i := ⟨_, rfl⟩
          rw [← hr] at r0 r1
          rw [← htv] at v0 v1
          obtain ⟨rh, hrh⟩ : ∃ rh, rh = (arOf r).h := ⟨_, rfl⟩
          obtain ⟨rl, hrl⟩ : ∃ rl, rl = (arOf r).l := ⟨_, rfl⟩
          obtain ⟨th, hth⟩ : ∃ th, th = (arOf tv).h := ⟨_, rfl⟩
          obtain ⟨tl, htl⟩ : ∃ tl, tl = (arOf tv).l := ⟨_, rfl⟩
          rw [← hrh] at r0
          rw [← hrl] at r1
          rw [← hth] at v0
          rw [← htl] at v1
          obtain ⟨h1, hh1⟩ : ∃ h1, h1 = hiV L i (jn + 1 - i) := ⟨_, rfl⟩
          obtain ⟨h0, hh0⟩ : ∃ h0, h0 = hiV L i (jn - i) := ⟨_, rfl⟩
          have hhi : h1 = max h0 (sm L jn).v := by
            rw [hh1, hh0, show jn + 1 - i = (jn - i) + 1 by omega]
            show max (hiV L i (jn - i)) (sm L (i + (jn - i))).v = _
            rw [show i + (jn - i) = jn by omega]
          obtain ⟨v, hv⟩ : ∃ v, v = (sm L jn).v := ⟨_, rfl⟩
          rw [← hv] at d1 hhi
          have hmx : max h0 v = h1 := hhi.symm
          obtain ⟨ai, hai⟩ : ∃ ai, ai = (sm L i).a := ⟨_, rfl⟩
          rw [← hai] at a0
          have qj0 : (0 : Int) ≤ (jn : Int) + 1 := by omega
          have qj1 : ((jn : Int) + 1).toNat = jn + 1 := by omega
          have qj2 : (jn : Int) + 1 < (L.length : Int) + 1 := by omega
          have qm0 : (0 : Int) ≤ (m1 : Int) + 1 := by omega
          have qm1 : ((m1 : Int) + 1).toNat = m1 + 1 := by omega
          have qm2 : (m1 : Int) + 1 < (M : Int) + 1 := by omega
          have qm3 : (m1 : Int) < (M : Int) + 1 := by omega
          have l10 := lt_of_heap hEw.c10
          have l12 := lt_of_heap hEw.c12
          have hh1b := hiV_bd hE.ok.ok i (jn + 1 - i) (by omega)
          rw [← hh1] at hh1b
          have HJ := Lib.hid (And.intro hbr (And.intro hEw (And.intro hTw (And.intro hr (And.intro htv (And.intro hrh (And.intro hrl (And.intro hth (And.intro htl (And.intro hh1 (And.intro hai hh0)))))))))))
          rw [← hh0]
          obtain ⟨w9, hw9⟩ : ∃ w9, w9 = wr.alloc (.cells #[.int .i64 rh, .int .i64 rl] 31) := ⟨_, rfl⟩
          have hb9 : Below wr.heap.size wr w9 := by rw [hw9]; exact below_box wr _
          have hE9 := hEw.below hb9
          obtain ⟨p, hp⟩ : ∃ p, p = wr.heap.size := ⟨_, rfl⟩
          have hp9 : w9.heap[wr.heap.size]? = some (.cells #[.int .i64 rh, .int .i64 rl] 31 (0, 0)) := by rw [hw9]; exact new_at wr _
          obtain ⟨y0, y1⟩ := two_at hp9
          rw [← hp] at y0 y1
          have y9 := cell_keep2 hb9 x9
          have ya := cell_keep2 hb9 a0
          have y12a := cell_keep2 hb9 x12a
          have y12b := cell_keep2 hb9 x12b
          have yz1 := cell_keep2 hb9 z1
          have yv0 := cell_keep2 hb9 v0
          have yv1 := cell_keep2 hb9 v1
          have hb9r := hbr.trans (hb9.mono hbr.size)
          have H9 := Lib.hid (And.intro hb9r (And.intro hE9 hw9))
          clear hbr hEw hTw htv hhi hh1 hh0 hv hb9 hE9 hp9 e1 e2 hb9r hr hrh hrl hth htl hai
          go_upto_region 49 with (fail)
          rw [← hw9, ← hp]
          clear hw9 hp
          have hr := HJ.out.2.2.2.1
          have hrh := HJ.out.2.2.2.2.2.1
          have hrl := HJ.out.2.2.2.2.2.2.1
          have hth := HJ.out.2.2.2.2.2.2.2.1
          have htl := HJ.out.2.2.2.2.2.2.2.2.1
          have hai := HJ.out.2.2.2.2.2.2.2.2.2.2.1
          by_cases hne : r = nonE
          · have hjne : jn + 1 < en := by
              have h1 := HI.out.1.ne
              refine Classical.byContradiction fun hc => h1 ?_
              rw [show en = jn + 1 by omega, ← hr, hne]
            have e1 : rh = -1 := by rw [hrh, hne, arOf_none]
            have e2 : rl = 0 := by rw [hrl, hne, arOf_none]
            subst e1
            subst e2
            have HN := Lib.hid hne
            clear hne hr hrh hrl hth htl hai x9 x12a x12b a0 t1 z1 r0 r1 v0 v1 d0 d1 x10
            go_quiet (fail)
            go_wp2_with (fail)
            refine ⟨⟨jn + 1, rfl, by omega, hjne, by rw [HJ.out.2.2.2.2.2.2.2.2.2.1], by go_num, below_drewN H9.out.1 _⟩, by simp [RowKit.intOf]; omega⟩
          · have hrb := lv_bd hE m1 (jn + 1) (by omega)
            rw [← hr] at hrb
            have hrb := hrb.resolve_left hne
            have hr24 : r ≤ 1000000000000000000000000 := by
              have h1 := hE.end_le (jn + 1)
              have h2 := hE.u1
              have h3 := Int.mul_le_mul_of_nonneg_left (show u - endT L u (jn + 1) ≤ 1000000000000 by omega) (show (0 : Int) ≤ 1000000000000 by omega)
              omega
            have hrok := arOf_ok hrb.1 hr24
            have hcb := cost_bd hE (show i < jn + 1 by omega) (show jn + 1 ≤ L.length by omega)
            have hend := hE.end_at (show i < jn + 1 by omega) (show jn + 1 ≤ L.length by omega)
            have heu := hE.end_u (jn + 1)
            have hcost : costV L u i (jn + 1) = h1 * (endT L u (jn + 1) - ai) := by
              unfold costV
              rw [HJ.out.2.2.2.2.2.2.2.2.2.1, HJ.out.2.2.2.2.2.2.2.2.2.2.1]
            have hai0 : 0 ≤ ai := by rw [hai]; exact (hE.ok.ok _ (sm_mem hpl)).a0
            have hu1 := hE.u1
            rw [← hai] at hcb hend
            obtain ⟨ed, hed⟩ : ∃ ed, ed = endT L u (jn + 1) := ⟨_, rfl⟩
            rw [← hed] at hcost hcb hend heu
            obtain ⟨cs, hcs⟩ : ∃ cs, cs = costV L u i (jn + 1) := ⟨_, rfl⟩
            rw [← hcs] at hcost hcb
            have hcs24 : cs ≤ 1000000000000000000000000 := by omega
            have hcok := arOf_ok hcb.1 hcs24
            have HPR := Lib.hid (fun V => product_g h1 (ed - ai) hh1b.1 hh1b.2 (by omega) (by omega) V)
            rw [arOf_prod, ← hcost] at HPR
            have HPL := Lib.hid (fun V => plus_g (arOf cs) (arOf r) V ⟨hcok.h0, by have := hcok.h1; omega, hcok.l0, hcok.l1⟩ ⟨hrok.h0, by have := hrok.h1; omega, hrok.l0, hrok.l1⟩)
            rw [arOf_plus] at HPL
            obtain ⟨xx, hxx⟩ : ∃ xx, xx = cs + r := ⟨_, rfl⟩
            rw [← hxx, ← hrh, ← hrl] at HPL
            obtain ⟨xh, hxh⟩ : ∃ xh, xh = (arOf xx).h := ⟨_, rfl⟩
            obtain ⟨xl, hxl⟩ : ∃ xl, xl = (arOf xx).l := ⟨_, rfl⟩
            rw [← hxh, ← hxl] at HPL
            have hEND : ∀ n os, Calls Tryd.prog 50 #[.int .i64 (jn : Int), .pointer (some ⟨b + 1, 0, none⟩), .pointer (some ⟨b, 0, none⟩), .pointer (some ⟨W.heap.size + 1, 0, none⟩)] (grow (w9.drewN n) os) fun e w' => e = .returned (.int .i64 (endT L u (jn + 1))) ∧ ∃ q os', w' = grow ((grow (w9.drewN n) os).drewN q) os' := fun n os => by
              have hV : Below w9.heap.size w9 (grow (w9.drewN n) os) := grown_below9 n os
              refine (end_ok (some ⟨g, o, none⟩) c L u (b + 1) b (W.heap.size + 1) _ jn hjl hlen (one_at (H9.out.2.1.below hV).c10) (one_at (H9.out.2.1.below hV).c9) (one_at (H9.out.2.1.below hV).c4) (H9.out.2.1.below hV).row).mono ?_
              rintro e w' ⟨rfl, rfl⟩
              exact ⟨rfl, 0, #[], by rw [grow_empty]; rfl⟩
            rw [← hed] at hEND
            have HEND := Lib.hid hEND
            have hbq : (xh == th && xl == tl) = decide (jn + 1 = en) := by
              have h1 := arOf_inj (a := xx) (b := tv)
              rw [ar_ext, ← hxh, ← hxl, ← hth, ← htl] at h1
              have h2 : xx = tv ↔ jn + 1 = en := by
                constructor
                · intro h
                  refine Classical.byContradiction fun hc => ?_
                  rcases HI.out.1.first (jn + 1) (by omega) (by omega) with h3 | h3
                  · exact hne (by rw [hr]; exact h3)
                  · exact h3 (by rw [← hcs, ← hr, ← hxx, h, HJ.out.2.2.2.2.1])
                · intro h
                  have h3 := HI.out.1.eq
                  rw [← h, ← hcs, ← hr, ← HJ.out.2.2.2.2.1] at h3
                  omega
              rw [Bool.eq_iff_iff]
              simp only [Bool.and_eq_true, beq_iff_eq, decide_eq_true_eq]
              rw [h1, h2]
            obtain ⟨bq, hbqe⟩ : ∃ bq, bq = decide (jn + 1 = en) := ⟨_, rfl⟩
            rw [← hbqe] at hbq
            have HBQ := Lib.hid hbq
            have enb : 0 < ed - ai ∧ ed ≤ 1000000000000 := by omega
            obtain ⟨enb0, enb1⟩ := enb
            have wq : IntKind.i64.wrap (ed - ai) = ed - ai := IntWalk.i64_in _ (by omega)
            have wq2 : wrap64 (ed - ai) = ed - ai := IntWalk.wrap64_in _ (by omega)
            have hrh0 : 0 ≤ rh := by rw [hrh]; exact hrok.h0
            have hrhn : (rh == -1) = false := beq_false_of_ne (by omega)
            have HB := Lib.hid hbqe
            clear hbq
            have HX2 := Lib.hid (And.intro hcb (And.intro hrb hne))
            clear hEND hrb hr24 hrok hcb hend heu hcost hai0 hed hcs hcs24 hcok hxx hxh hxl hne hr hrh hrl hth htl hai hbqe x9 x12a x12b a0 t1 z1 r0 r1 v0 v1 d0 d1 x10
            have l9 := World.block_lt_of_cell? w9 _ y9
            have la9 := World.block_lt_of_cell? w9 _ ya
            have lp9 := World.block_lt_of_cell? w9 _ y0
            have l12' := World.block_lt_of_cell? w9 _ y12a
            have lz9 := World.block_lt_of_cell? w9 _ yz1
            have lv9 := World.block_lt_of_cell? w9 _ yv0
            have Y9 := fun n os => cell_grown l9 y9 n os
            have YA := fun n os => cell_grown la9 ya n os
            have Y0 := fun n os => cell_grown lp9 y0 n os
            have Y1 := fun n os => cell_grown (a := ⟨p, 1, none⟩) lp9 y1 n os
            have Y12a := fun n os => cell_grown l12' y12a n os
            have Y12b := fun n os => cell_grown (a := ⟨b + 2, 1, none⟩) l12' y12b n os
            have YZ := fun n os => cell_grown lz9 yz1 n os
            have YV0 := fun n os => cell_grown lv9 yv0 n os
            have YV1 := fun n os => cell_grown (a := ⟨bs (m1 + 1), i * 2 + 1, none⟩) lv9 yv1 n os
            have HLT := Lib.hid (And.intro l9 (And.intro la9 (And.intro lp9 (And.intro l12' (And.intro lz9 lv9)))))
            clear l9 la9 lp9 l12' lz9 lv9 y9 ya y0 y1 y12a y12b yz1 yv0 yv1
            have qi2 : (i : Int) < (L.length : Int) + 1 := by omega
            have qi3 : i < L.length + 1 := by omega
            have mixed : Tryd.prog.follows .mixedOrders = true := by kernel_rfl
            have hEQ : ∀ w, (binOp .eql 31 (.agg #[.int .i64 xh, .int .i64 xl]) (.agg #[.int .i64 th, .int .i64 tl])).run Tryd.prog w = .ok (.bool bq) w := fun w => by rw [eql_area, HBQ.out]
            go_quiet_grown ((first | (go_at_call 50; exact Calls.grown_of (HEND.out _ _)) | (go_at_call 53; exact Calls.grown_of (HPR.out _)) | (go_at_call 52; exact Calls.grown_of (HPL.out _))))
            obtain ⟨wN, hwN⟩ : ∃ wN, wN = grow (w9.drewN nq) osq := ⟨_, rfl⟩
            rw [← hwN]
            have hbN : Below wI.heap.size wI wN := by
              have h1 : Below w9.heap.size w9 wN := by rw [hwN]; exact grown_below9 nq osq
              exact H9.out.1.trans (h1.mono H9.out.1.size)
            clear hwN Y9 YA Y0 Y1 Y12a Y12b YZ YV0 YV1 hEQ
            cases hbqc : bq with
            | false =>
              have hjne : jn + 1 < en := by
                have h1 := HB.out
                rw [hbqc] at h1
                have := of_decide_eq_false h1.symm
                omega
              have HN := Lib.hid hbN
              clear hbqc hbN
              go_wp2_with (fail)
              go_roundw
              case rel => exact ⟨jn + 1, rfl, by omega, hjne, by rw [HJ.out.2.2.2.2.2.2.2.2.2.1], by go_num, HN.out⟩
              case measure => simp [RowKit.intOf]; omega
            | true =>
              have hje : jn + 1 = en := by
                have h1 := HB.out
                rw [hbqc] at h1
                exact of_decide_eq_true h1.symm
              have hp22 := HG.out.2.2.2.2.2.2.2.1
              have hlX : ((overS L x).take q).length ≤ 500 := by
                rw [List.length_take, over_len, HG.out.2.2.1]; omega
              have hbxI := HI.out.2.2.2.2.2.2.2.1
              have hrowI := HI.out.2.2.2.2.2.2.2.2.1
              have hovI := HI.out.2.2.1
              have hEN := HI.out.2.2.2.2.2.2.2.2.2.1.below hbN
              have hbGN : Below p22 wG wN := HI.out.2.2.2.2.2.2.1.trans (hbN.mono (by have h1 := HI.out.2.2.2.2.2.2.1.size; omega))
              have hbg : b < p22 ∧ g < p22 := by
                have h1 := lt_of_heap HG.out.2.2.2.2.2.2.1.c9
                obtain ⟨g', o', eg, hgG, _, _⟩ := HG.out.2.2.2.2.2.2.1.row.s2 hjl
                injection eg with eg; injection eg with e1 e2 _
                subst e1
                exact ⟨by rw [hp22]; exact h1, by rw [hp22]; exact hgG⟩
              obtain ⟨X, hX⟩ : ∃ X, X = (overS L x).take q := ⟨_, rfl⟩
              rw [← hX] at hbxI hrowI hovI hlX
              have hlxI := lt_of_heap hbxI
              have hbxN : Boxed wN p22 24 (.slice A' X.length c') := (hbN.block _ hlxI).trans hbxI
              have hrowN : OwnE Sx.es 2 wN p22 49 A' c' X := row_below hrowI hbN
              have hnr := not_row' hbxN (by decide) hrowN
              have hh1 := HJ.out.2.2.2.2.2.2.2.2.2.1
              have hai := HJ.out.2.2.2.2.2.2.2.2.2.2.1
              obtain ⟨X2, hX2⟩ : ∃ X2, X2 = (overS L x).take (q + 1) := ⟨_, rfl⟩
              have HX3 := Lib.hid hX2
              have hov2 : X2 = X ++ [⟨ai, h1⟩] := by rw [hX2, hovI, hai, hh1, hje]
              clear hX2
              have x9 := one_at hEN.c9
              obtain ⟨g', o', eg, hgN, a0, _⟩ := hEN.row.s2 hpl
              injection eg with eg; injection eg with e1 e2 _
              subst e1; subst e2
              rw [← hai] at a0
              have hx0 := one_at hbxN
              have hfx := frozen_plain hbxN 0
              have hplt := lt_of_heap hbxN
              have hS2 : ∀ V, Below p22 wN V → Below p22 wN V ∧ V.cell? ⟨b, 0, none⟩ = some (.slice (some ⟨g, o, none⟩) L.length c) ∧ V.cell? ⟨g, o + i * 2, none⟩ = some (.int .i64 ai) := fun V hV => ⟨hV, (hV.cell (p := ⟨b, 0, none⟩) hbg.1).trans x9, (hV.cell (p := ⟨g, _, none⟩) hbg.2).trans a0⟩
              have HS2 := Lib.hid hS2
              have s1 := HS2.out wN.drew (below_drew (Below.refl _ _))
              obtain ⟨wO, hwO⟩ : ∃ wO, wO = (wN.alloc (.cells #[.int .i64 ai, .int .i64 h1] 49)).drew := ⟨_, rfl⟩
              have hbO : Below wN.heap.size wN wO := by rw [hwO]; exact below_drew (below_box wN _)
              have hx0O := cell_keep2 hbO hx0
              have hbxO : Boxed wO p22 24 (.slice A' X.length c') := (hbO.block _ hplt).trans hbxN
              have hrowO : OwnE Sx.es 2 wO p22 49 A' c' X := row_below hrowN hbO
              have hone : EAt Sx.es 2 wO (some ⟨wN.heap.size, 0, none⟩) 1 [(⟨ai, h1⟩ : Sm)] := by rw [hwO]; exact oneS wN _ ⟨ai, h1⟩
              have hO22 : Below p22 wN wO := hbO.mono (Nat.le_of_lt hplt)
              have hszO := hbO.size
              rw [hwO] at hx0O
              have HN := Lib.hid (And.intro hbN (And.intro hbGN (And.intro hbxN (And.intro hrowN (And.intro hnr (And.intro hov2 (And.intro hbxO (And.intro hrowO (And.intro hone (And.intro hO22 (And.intro hwO (And.intro hszO (And.intro hje (And.intro hX hlX))))))))))))))
              have hlX' : X.length ≤ 500 := hlX
              clear hbqc hbN hbxI hrowI hovI hEN hbGN hbxN hrowN hnr hh1 hai hov2 hS2 hbO hbxO hrowO hone hO22 hszO hje hX hp22 hlX hwO
              go_upto_region 50 with (fail)
              rw [show Op.load 22 (.tmp 244) = opL245 from rfl]
              go_region_held3 (fun w' => Below p22 wN w' ∧ w'.cell? ⟨b, 0, none⟩ = some (.slice (some ⟨g, o, none⟩) L.length c) ∧ w'.cell? ⟨g, o + i * 2, none⟩ = some (.int .i64 ai))
                (first | assumption | (rw [← HN.out.2.2.2.2.2.2.2.2.2.2.1]; exact HS2.out _ HN.out.2.2.2.2.2.2.2.2.2.1) | exact HS2.out _ (HN.out.2.2.2.2.2.2.2.2.2.1.trans hb8) | exact HS2.out _ ((HN.out.2.2.2.2.2.2.2.2.2.1.trans hb8).setCell (Nat.le_refl _) _))
                (first | (rw [← HN.out.2.2.2.2.2.2.2.2.2.2.1]; refine step_e2 ES Tryd.underlying22 sample_info (by decide) (by rfl) (.tmp 245) (.tmp 253) (by rfl) p22 A' c' X (by rfl) HN.out.2.2.2.2.2.2.2.1 (some ⟨wN.heap.size, 0, none⟩) 1 [(⟨ai, h1⟩ : Sm)] (by rfl) HN.out.2.2.2.2.2.2.2.2.1 (fun h => by cases h) (by simp; omega) (by have := HN.out.2.2.2.2.2.2.2.2.2.2.2.1; omega) ?_
                          intro A8 c8 w8 h8 hb8 hk8
                          have hbx8 := (hk8 p22 (by have := HN.out.2.2.2.2.2.2.2.2.2.2.2.1; omega) HN.out.2.2.2.2.1).trans HN.out.2.2.2.2.2.2.1
                          have z0 := one_at hbx8
                          have zf := frozen_plain hbx8 0
                          rw [← HN.out.2.2.2.2.2.1] at h8 ⊢
                          have H8 := Lib.hid (And.intro h8 (And.intro hb8 hbx8))
                          clear h8 hbx8))
              all_goals
                go_wp2_with (fail)
                go_roundw
                case rel =>
                  have hbGN := HN.out.2.1
                  have hnr8 := not_row' H8.out.2.2 (by decide) H8.out.1
                  have h1 := HI.out.2.2.2.2.1
                  have h2 := HN.out.2.2.2.2.2.2.2.2.2.2.2.2.1
                  have h3 := HI.out.2.2.2.2.2.1
                  refine ⟨q + 1, A8, c8, by omega, ?_, ?_, HI.out.2.1, ((hbGN.trans HN.out.2.2.2.2.2.2.2.2.2.1).trans H8.out.2.1).setCell (Nat.le_refl _) _, by rw [← HX3.out]; exact Boxed.set _ H8.out.2.2, by rw [← HX3.out]; exact row_far H8.out.1 hnr8 _ _⟩
                  · rw [show k - (q + 1) = m1 by omega]
                  · rw [← h1, ← h2]; rfl
                case measure =>
                  have h2 := HN.out.2.2.2.2.2.2.2.2.2.2.2.2.1
                  simp [RowKit.intOf]; omega
      · obtain rfl : q = k := by omega
        have hpe : posE L x q = L.length := pos_end L HG.out.2.2.1.symm
        have hXa : (overS L x).take q = overS L x := List.take_of_length_le (by rw [over_len, HG.out.2.2.1]; exact Nat.le_refl _)
        rw [hXa] at hbx hrow
        have hx0 := one_at hbx
        have c6 := hEI.c6
        have z6 := one_at c6
        have f6 := frozen_plain c6 0
        have hW : Below W.heap.size W wI := by
          have h1 := HE4.out.2.1
          have h2 := HG.out.2.2.2.2.2.1
          have h3 := h1.trans (h2.mono (by have := h1.size; have := HE4.out.2.2.1; omega))
          exact h3.trans (hbw.mono (by rw [HG.out.2.2.2.2.2.2.2.1]; exact h3.size))
        have hne6 : A'.map (·.block) ≠ some (W.heap.size + 1 + 1) := by
          intro e
          have h1 := (OwnE.at ES hrow).2 _ e
          have h2 := lt_of_heap HG.out.2.2.2.2.2.2.1.c6
          rw [← HG.out.2.2.2.2.2.2.2.1] at h2
          omega
        have hxb : x = bestL L u most.toNat := HG.out.1.unique (bestL_is hn0 (show 0 < most.toNat by omega)).2
        have hrow6 := fun v => (OwnE.at ES (row_far (v := v) hrow hne6 (W.heap.size + 1 + 1) 0)).1
        obtain ⟨X, hX⟩ : ∃ X, X = overS L x := ⟨_, rfl⟩
        rw [← hX] at hx0 hrow6
        have HF := Lib.hid (And.intro hW (And.intro c6 (And.intro hxb (And.intro hrow6 hX))))
        rw [hpe]
        clear hpe hXa hbx hrow hEI hTI hbw c6 hW hne6 hxb hrow6 hX hgq
        go_wp2_with (fail)
        refine bodyPost_ret (results_row2 rfl _ _ (W.heap.size + 1 + 1) 24 #[.slice A' X.length c'] (0, 0) _ rfl (set1 HF.out.2.1) Tryd.underlying24 series_sz) rfl ?_
        refine ⟨A', c', ?_, ?_, HF.out.1.setCell (show W.heap.size ≤ W.heap.size + 1 + 1 by omega) _⟩
        · rw [← HF.out.2.2.1, ← HF.out.2.2.2.2]; rfl
        · rw [← HF.out.2.2.1, ← HF.out.2.2.2.2]; exact HF.out.2.2.2.1 _
end Sx
end Go.Proofs.YtionocafkaemiaaDoor
