/- Alloc. Room. Owner. The calls that are refused. -/
import Derived.Test.YtlknhbcambdccaaK4
import Derived.StillTailTactics
namespace Go.Proofs.Ytlknhbcambdccaa
open Go.RowKit
attribute [local go_sem] Oper.semAt_some
namespace Bu

theorem members_head {S : Nat → Bool} {p q : Nat} (hq : q < 1024) (h : members S (q + 1) = [p]) : ∃ l, members S 1024 = p :: l := by
  unfold members at h ⊢
  obtain ⟨m, hm⟩ := Nat.exists_eq_add_of_le (show q + 1 ≤ 1024 by omega)
  rw [hm, List.range_add, List.filter_append, h]
  exact ⟨_, rfl⟩

/-- The least page of a set. -/
def least (S : Nat → Bool) : Option Nat := (members S 1024).head?
theorem least_head {S : Nat → Bool} {p q : Nat} (hq : q < 1024) (h : members S (q + 1) = [p]) : least S = some p := by
  obtain ⟨l, hl⟩ := members_head hq h
  unfold least
  rw [hl]; rfl
theorem least_nil {S : Nat → Bool} (h : members S 1024 = []) : least S = none := by
  unfold least
  rw [h]; rfl
attribute [irreducible] least

/-- The least order from k up (n orders) that has a free block, and its first block. -/
def firstK (Fr : Nat → Nat → Bool) : Nat → Nat → Option (Nat × Nat)
  | _, 0 => none
  | k, n + 1 => match least (Fr k) with
    | none => firstK Fr (k + 1) n
    | some p => some (k, p)
theorem firstK_zero (Fr : Nat → Nat → Bool) (k : Nat) : firstK Fr k 0 = none := by rw [firstK]
theorem firstK_cons {Fr : Nat → Nat → Bool} {k n p : Nat} (h : least (Fr k) = some p) : firstK Fr k (n + 1) = some (k, p) := by rw [firstK, h]
theorem firstK_nil {Fr : Nat → Nat → Bool} {k n : Nat} (h : least (Fr k) = none) : firstK Fr k (n + 1) = firstK Fr (k + 1) n := by rw [firstK, h]

/-- What Alloc hands back. -/
def AllocR (b N order : Nat) (Fr Gv : Nat → Nat → Bool) (w : World) (e : Ending) (w' : World) : Option (Nat × Nat) → Prop
  | none => e = .returned (.tuple #[.int .i64 0, .int .i64 5]) ∧ Grow1 b w w' ∧ Bu w' b N Fr Gv
  | some (k, p) => e = .returned (.tuple #[.int .i64 p, .int .i64 0]) ∧ Grow1 b w w' ∧ Bu w' b N (carveF Fr p order k) (putIn Gv p order) ∧ order ≤ k ∧ k ≤ N ∧ p < 1024 ∧ Fr k p = true

/-- The boxes of Alloc. -/
structure Boxes (S b order : Nat) (p e : Int) (V : World) : Prop where
  x2 : V.heap[S]? = some (.cells #[.pointer (some ⟨b, 0, none⟩)] 33 (0, 0))
  x3 : V.heap[S + 1]? = some (.cells #[.int .i64 (order : Int)] 3 (0, 0))
  x4 : V.heap[S + 1 + 1]? = some (.cells #[.int .i64 p] 3 (0, 0))
  x5 : V.heap[S + 1 + 1 + 1]? = some (.cells #[.int .i64 e] 24 (0, 0))
theorem Boxes.keep {S b order : Nat} {p e : Int} {V V' : World} (h : Boxes S b order p e V) (hk : ∀ x, S ≤ x → x ≤ S + 1 + 1 + 1 → V'.heap[x]? = V.heap[x]?) : Boxes S b order p e V' :=
  ⟨(hk _ (by omega) (by omega)).trans h.x2, (hk _ (by omega) (by omega)).trans h.x3, (hk _ (by omega) (by omega)).trans h.x4, (hk _ (by omega) (by omega)).trans h.x5⟩

theorem alloc_results (V : World) (S : Nat) (p e : Int) (tmps : Array Value) (h4 : tmps[4]?.getD undef = .pointer (some ⟨S + 1 + 1, 0, none⟩)) (h5 : tmps[5]?.getD undef = .pointer (some ⟨S + 1 + 1 + 1, 0, none⟩))
    (c4 : V.cell? ⟨S + 1 + 1, 0, none⟩ = some (.int .i64 p)) (c5 : V.cell? ⟨S + 1 + 1 + 1, 0, none⟩ = some (.int .i64 e)) :
    (results Try.f39 tmps).run Try.prog V = .ok (.tuple #[.int .i64 p, .int .i64 e]) V := by
  have hr : Try.f39.results = #[.cell 4 3, .cell 5 24] := rfl
  simp [results, hr, h4, h5, go_sem, loadVar, asAddr, c4, c5]
theorem Boxes.put4 {S b order : Nat} {p e p2 : Int} {V : World} (h : Boxes S b order p e V) : Boxes S b order p2 e (V.setCell ⟨S + 1 + 1, 0, none⟩ (.int .i64 p2)) :=
  ⟨(setCell_far _ _ _ _ (by show S ≠ S + 1 + 1; omega)).trans h.x2, (setCell_far _ _ _ _ (by show S + 1 ≠ S + 1 + 1; omega)).trans h.x3, setCell_at _ _ _ _ _ _ h.x4, (setCell_far _ _ _ _ (by show S + 1 + 1 + 1 ≠ S + 1 + 1; omega)).trans h.x5⟩
theorem Boxes.put5 {S b order : Nat} {p e e2 : Int} {V : World} (h : Boxes S b order p e V) : Boxes S b order p e2 (V.setCell ⟨S + 1 + 1 + 1, 0, none⟩ (.int .i64 e2)) :=
  ⟨(setCell_far _ _ _ _ (by show S ≠ S + 1 + 1 + 1; omega)).trans h.x2, (setCell_far _ _ _ _ (by show S + 1 ≠ S + 1 + 1 + 1; omega)).trans h.x3, (setCell_far _ _ _ _ (by show S + 1 + 1 ≠ S + 1 + 1 + 1; omega)).trans h.x4, setCell_at _ _ _ _ _ _ h.x5⟩
theorem Boxes.drewN {S b order : Nat} {p e : Int} {V : World} (h : Boxes S b order p e V) (n : Nat) : Boxes S b order p e (V.drewN n) := ⟨h.x2, h.x3, h.x4, h.x5⟩

theorem twoFar (V : World) (S x : Nat) (u v : Value) (h : x < S ∨ S + 1 + 1 + 1 < x) : ((V.setCell ⟨S + 1 + 1, 0, none⟩ u).setCell ⟨S + 1 + 1 + 1, 0, none⟩ v).heap[x]? = V.heap[x]? :=
  (setCell_far _ _ _ _ (by show x ≠ S + 1 + 1 + 1; omega)).trans (setCell_far _ _ _ _ (by show x ≠ S + 1 + 1; omega))

theorem alloc_leave {w : World} {b N order : Nat} {Fr Gv : Nat → Nat → Bool} {o : Option (Nat × Nat)} {p e : Int} {ds : List Deferred} {hi : Nat} {V : World} {tmps : Array Value} (hM : Marks (w.heap.size + 4) V hi ds)
    (h4 : tmps[4]?.getD undef = .pointer (some ⟨w.heap.size + 1 + 1, 0, none⟩)) (h5 : tmps[5]?.getD undef = .pointer (some ⟨w.heap.size + 1 + 1 + 1, 0, none⟩)) (hX : Boxes w.heap.size b order p e V)
    (hR : ∀ V', Shut (w.heap.size + 4) V V' → AllocR b N order Fr Gv w (.returned (.tuple #[.int .i64 p, .int .i64 e])) V' o) :
    bodyPostM Fence.wide 8 Try.prog Try.f39 (fun e w' => AllocR b N order Fr Gv w e w' o) Exit.ret ⟨tmps, ds⟩ V :=
  leaves_marks (w.heap.size + 4) ds hi V hM fun V' hs =>
    ⟨_, alloc_results V' w.heap.size p e tmps h4 h5 (one_cell ((hs.block _ (by omega)).trans hX.x4)).1 (one_cell ((hs.block _ (by omega)).trans hX.x5)).1, hR V' hs⟩

/-- The loop of Alloc. -/
def AllocI (w : World) (b N order : Nat) (Fr Gv : Nat → Nat → Bool) (m : Nat) (a : Act) (W : World) : Prop :=
  ∃ (k r : Nat) (ds : List Deferred) (u7 u8 u9 u10 u11 u12 u13 u14 u15 u16 u17 u18 u19 u20 u21 u22 u23 u24 u25 u26 u27 u28 u29 u30 u31 u32 u33 u34 u35 u36 u37 u38 u39 : Value), m = N + 1 - k ∧ order ≤ k ∧ (k ≤ N + 1 ∨ k = order) ∧ k ≤ 11 ∧ firstK Fr order (N + 1 - order) = firstK Fr k (N + 1 - k) ∧
    w.heap.size + 1 + 1 + 1 < r ∧ W.heap[r]? = some (.cells #[.int .i64 (k : Int)] 3 (0, 0)) ∧ Boxes w.heap.size b order 0 0 W ∧ Bu W b N Fr Gv ∧ Grow1 b w W ∧ Marks (w.heap.size + 4) W W.heap.size ds ∧
    a = ⟨#[.pointer (some ⟨b, 0, none⟩), .int .i64 (order : Int), .pointer (some ⟨w.heap.size, 0, none⟩), .pointer (some ⟨w.heap.size + 1, 0, none⟩), .pointer (some ⟨w.heap.size + 1 + 1, 0, none⟩), .pointer (some ⟨w.heap.size + 1 + 1 + 1, 0, none⟩), .pointer (some ⟨r, 0, none⟩), u7, u8, u9, u10, u11, u12, u13, u14, u15, u16, u17, u18, u19, u20, u21, u22, u23, u24, u25, u26, u27, u28, u29, u30, u31, u32, u33, u34, u35, u36, u37, u38, u39], ds⟩

set_option maxRecDepth 100000 in
set_option maxHeartbeats 2000000 in
theorem alloc_ok (w : World) (b N order : Nat) (Fr Gv : Nat → Nat → Bool) (hB : Bu w b N Fr Gv) (hN : N ≤ 10) (ho : order ≤ 10) :
    Calls Try.prog 39 #[.pointer (some ⟨b, 0, none⟩), .int .i64 order] w fun e w' => AllocR b N order Fr Gv w e w' (firstK Fr order (N + 1 - order)) := by
  have hbl := hB.lt
  obtain ⟨W0, hW0⟩ : ∃ W0, W0 = ((((w.alloc (.cells #[.pointer (some ⟨b, 0, none⟩)] 33)).alloc (.cells #[.int .i64 (order : Int)] 3)).alloc (.cells #[.int .i64 0] 3)).alloc (.cells #[.int .i64 0] 24)) := ⟨_, rfl⟩
  have hs0 : W0.heap.size = w.heap.size + 4 := by rw [hW0]; simp
  have hb0 : Below w.heap.size w W0 := by rw [hW0]; exact ((((Below.refl _ _).alloc (Nat.le_refl _) _).alloc (by simp) _).alloc (by simp; omega) _).alloc (by simp; omega) _
  have hx0 : Boxes w.heap.size b order 0 0 W0 := by
    rw [hW0]
    refine ⟨?_, ?_, ?_, ?_⟩
    · rw [heapAlloc, if_neg (by simp <;> omega), heapAlloc, if_neg (by simp <;> omega), heapAlloc, if_neg (by simp), heapAlloc, if_pos rfl]
    · rw [heapAlloc, if_neg (by simp <;> omega), heapAlloc, if_neg (by simp), heapAlloc, if_pos (by simp)]
    · rw [heapAlloc, if_neg (by simp), heapAlloc, if_pos (by simp)]
    · rw [heapAlloc, if_pos (by simp)]
  have hB0 : Bu W0 b N Fr Gv := hB.keep (hb0.block b hbl)
  have c2 := one_cell hx0.x2
  have c3 := one_cell hx0.x3
  obtain ⟨c2, _⟩ := c2
  obtain ⟨c3, _⟩ := c3
  have HIs := Lib.hid (is_ok W0 b N Fr Gv hB0)
  have H0 := Lib.hid (And.intro hb0 (And.intro hx0 hB0))
  have hc0 : ¬ (order : Int) < 0 := by omega
  have hc1 : ¬ (order : Int) > 10 := by omega
  clear hB hb0 hx0 hB0
  refine (callsIn_wide (n := 8)).1 ?_
  refine callsIn_of_wp_marks Try.func39 rfl trivial ?_ rfl
  simp only [Try.ntmps39, List.size_toArray, List.length_cons, List.length_nil, Nat.reduceAdd, Nat.reduceSub, Array.replicate_succ, Array.replicate_zero, List.push_toArray, List.append_toArray, List.nil_append, List.cons_append]
  refine wpIn_wide.2 ?_
  go_wp2_with (fail)
  rw [← hW0]
  clear hW0
  go_wp2_with (go_at_call 47; refine HIs.out.mono ?_; rintro e w' ⟨rfl, rfl⟩)
  refine (wpIn_wide (n := 8)).1 ?_
  refine loopK (AllocI w b N order Fr Gv) (N + 1 - order) ?_ ?_
  · refine ⟨order, w.heap.size + 4, [], _, _, _, _, _, _, _, _, _, _, _, _, _, _, _, _, _, _, _, _, _, _, _, _, _, _, _, _, _, _, _, _, _, rfl, Nat.le_refl _, .inr rfl, by omega, rfl, by omega, ?_, H0.out.2.1.keep fun x _ _ => alloc_old _ _ _ (by omega), H0.out.2.2.keep (alloc_old _ _ _ (by omega)), Grow1.alloc ⟨H0.out.1.os, H0.out.1.tape, H0.out.1.output, H0.out.1.size, fun x hx _ => H0.out.1.block x hx⟩ _, trivial, rfl⟩
    rw [heapAlloc, if_pos hs0.symm]
  · rintro m a W ⟨k, r, ds, u7, u8, u9, u10, u11, u12, u13, u14, u15, u16, u17, u18, u19, u20, u21, u22, u23, u24, u25, u26, u27, u28, u29, u30, u31, u32, u33, u34, u35, u36, u37, u38, u39, hm, hok, hkN, hk11, hfk, hr, hrk, hX, hBW, hbW, hM, rfl⟩ K hK
    have hbW2 : b < W.heap.size := hBW.lt
    have hc1' := hBW.head.2
    have hr2 := one_cell hrk
    have h22 := one_cell hX.x2
    have h44 := one_cell hX.x4
    have h55 := one_cell hX.x5
    obtain ⟨c6, f6⟩ := hr2
    obtain ⟨c22, _⟩ := h22
    obtain ⟨c44, f44⟩ := h44
    obtain ⟨c55, f55⟩ := h55
    have HX := Lib.hid (And.intro hX (And.intro hBW (And.intro hbW (And.intro hM (And.intro hfk (And.intro hrk hkN))))))
    have HK := Lib.hid hK
    have HR := Lib.hid hr
    clear hX hBW hbW hM hfk hrk hK hkN hr c2 c3 HIs H0
    refine wpIn_wide.2 ?_
    by_cases hle : k ≤ N
    · have e1 : (k : Int) ≤ (N : Int) := by omega
      have e2 : (0 : Int) ≤ (k : Int) := by omega
      have e3 : (k : Int) < 11 := by omega
      go_wp2_with (fail)
      go_quiet (fail)
      go_wp2_with (fail)
      generalize hq : W.drewN _ = Wq
      have c6q : Wq.cell? ⟨r, 0, none⟩ = some (.int .i64 (k : Int)) := by rw [← hq]; exact c6
      have c2q : Wq.cell? ⟨w.heap.size, 0, none⟩ = some (.pointer (some ⟨b, 0, none⟩)) := by rw [← hq]; exact c22
      have hsq : Wq.heap.size = W.heap.size := by rw [← hq]; rfl
      have hbq : Below W.heap.size W Wq := by rw [← hq]; exact ⟨rfl, rfl, rfl, Nat.le_refl _, fun _ _ => rfl⟩
      clear hq
      obtain ⟨WA, hWA⟩ : ∃ WA, WA = Wq.drew.alloc (.cells #[.pointer (some ⟨b, 2 + k * 16, none⟩)] 144) := ⟨_, rfl⟩
      have hsA : WA.heap.size = W.heap.size + 1 := by rw [hWA]; simp [hsq]
      have hbA : Below W.heap.size W WA := by rw [hWA]; exact (hbq.drew).alloc hbq.size _
      have hDA : WA.heap[W.heap.size]? = some (.cells #[.pointer (some ⟨b, 2 + k * 16, none⟩)] 144 (0, 0)) := by rw [hWA, heapAlloc, if_pos (by simp [hsq])]
      have HAq := Lib.hid (all_ok Wq.drew b (2 + k * 16))
      rw [← hWA] at HAq
      have hsq' : Wq.drew.heap.size = W.heap.size := hsq
      clear hWA
      refine wp_region_still_tail 5 (by kernel_rfl) (by kernel_rfl) ?_
      simp only [List.take_succ_cons, List.take_zero, List.drop_succ_cons, List.drop_zero]
      change wpStill _ _ (World.drew _) (fun a' => wpList _ _ _ _ a' (World.drew _)) _ _
      repeat still_step
      refine wpStill_nil ?_
      go_wp2_with (go_at_call 73; refine HAq.out.mono ?_; rintro e w' ⟨rfl, hw'⟩; rw [hsq', hw'])
      refine (wpIn_wide (n := 8)).1 ?_
      have hBA : Bu WA b N Fr Gv := HX.out.2.1.keep (hbA.block b hbW2)
      have hXA : Boxes w.heap.size b order 0 0 WA := HX.out.1.keep fun x _ _ => hbA.block x (by have := HX.out.2.2.1.size; have := HR.out; have := lt_of_heap HX.out.1.x5; omega)
      have hrA : WA.heap[r]? = some (.cells #[.int .i64 (k : Int)] 3 (0, 0)) := (hbA.block r (lt_of_heap HX.out.2.2.2.2.2.1)).trans HX.out.2.2.2.2.2.1
      have hrl := lt_of_heap HX.out.2.2.2.2.2.1
      have h5l := lt_of_heap HX.out.1.x5
      obtain ⟨own0, hown⟩ : ∃ own0 : Ow, own0 = (fun x => if x = b ∨ (w.heap.size ≤ x ∧ x ≤ w.heap.size + 1 + 1 + 1) ∨ x = r then some 0 else none) := ⟨_, rfl⟩
      have hoz : ∀ x, own0 x = none ↔ ¬ (x = b ∨ (w.heap.size ≤ x ∧ x ≤ w.heap.size + 1 + 1 + 1) ∨ x = r) := fun x => by rw [hown]; simp
      have ho1 : ∀ x, (x = b ∨ (w.heap.size ≤ x ∧ x ≤ w.heap.size + 1 + 1 + 1) ∨ x = r) → own0 x ≠ none := fun x hx h => (hoz x).1 h hx
      have HO := Lib.hid (And.intro hBA (And.intro hXA (And.intro hrA (And.intro hbA (And.intro hDA (And.intro hoz ho1))))))
      clear hBA hXA hrA hbA hDA hoz hown ho1 HAq
      refine rangeZ (I := fun own pre V => own = own0 ∧ pre = [] ∧ Bu V b N Fr Gv ∧ Boxes w.heap.size b order 0 0 V ∧ V.heap[r]? = some (.cells #[.int .i64 (k : Int)] 3 (0, 0)))
        (Ix := fun c own pre V => c = .ret ∧ own = own0 ∧ ∃ p, pre = [p] ∧ p < 1024 ∧ Fr k p = true ∧ Bu V b N (carveF Fr p order k) (putIn Gv p order) ∧ Boxes w.heap.size b order p 0 V)
        rfl (by omega) (gf := 92) (lb := #[.pointer (some ⟨W.heap.size, 0, none⟩)]) rfl trivial (enters_of Try.func92 (by kernel_rfl) rfl) (allseq (8 - 1) (by omega) W.heap.size b (2 + k * 16) (Fr k))
        own0 ?hf0 ?hD ?hR (fun _ => rfl) ?hE ?hI ?hIx ?h0 ?a1 ?assign ?body ?done ?stop
      case hf0 =>
        intro x hx
        have := (not_congr (HO.out.2.2.2.2.2.1 x)).1 hx
        omega
      case hD =>
        intro V hV
        exact ⟨by have := hV.size; omega, (one_cell ((hV.block _ (by omega)).trans HO.out.2.2.2.2.1)).1⟩
      case hR =>
        rintro x rfl
        exact ⟨(HO.out.2.2.2.2.2.1 _).2 (by omega), by omega⟩
      case hE =>
        rintro own pre V ⟨_, _, h, _⟩
        exact h.free (by omega)
      case hI =>
        rintro own pre V V' ⟨rfl, rfl, h1, h2, h3⟩ hs hk
        exact ⟨rfl, rfl, h1.keep (hk _ (HO.out.2.2.2.2.2.2 _ (.inl rfl)) h1.lt), h2.keep fun x hx1 hx2 => hk _ (HO.out.2.2.2.2.2.2 _ (.inr (.inl ⟨hx1, hx2⟩))) (by have := lt_of_heap h2.x5; omega), (hk _ (HO.out.2.2.2.2.2.2 _ (.inr (.inr rfl))) (lt_of_heap h3)).trans h3⟩
      case hIx =>
        rintro c own pre V V' ⟨rfl, rfl, p, rfl, h0, h00, h1, h2⟩ hs hk
        exact ⟨rfl, rfl, p, rfl, h0, h00, h1.keep (hk _ (HO.out.2.2.2.2.2.2 _ (.inl rfl)) h1.lt), h2.keep fun x hx1 hx2 => hk _ (HO.out.2.2.2.2.2.2 _ (.inr (.inl ⟨hx1, hx2⟩))) (by have := lt_of_heap h2.x5; omega)⟩
      case h0 => exact ⟨rfl, rfl, HO.out.1, HO.out.2.1, HO.out.2.2.1⟩
      case assign =>
        intro l x V K hK
        gi_wp2
        exact hK
      case body =>
        rintro l own pre x V ⟨ho, rfl, hBV, hXV, hrV⟩ hfV ⟨hx1, hx2, hx3⟩
        obtain ⟨j, hj⟩ := Nat.exists_eq_add_of_le hok
        have hC := carve_ok V b N x order j Fr Gv hBV hx1 (by omega)
        rw [← hj] at hC
        have HC := Lib.hid hC
        obtain ⟨v2, _⟩ := one_cell hXV.x2
        obtain ⟨v3, _⟩ := one_cell hXV.x3
        obtain ⟨v6, _⟩ := one_cell hrV
        have hV5 := lt_of_heap hXV.x5
        have HV := Lib.hid (And.intro hXV (And.intro hx1 (And.intro hx2 (And.intro ho hV5))))
        clear hC hXV hx1 hx2 hx3 hBV hrV c6 c22 c44 c55 f6 f44 f55 c6q c2q hc1' hj ho
        gi_wp2
        refine ⟨trivial, CallsIn.mono (CallsIn.inRound l (callsIn_wide.2 HC.out)) ?_⟩
        rintro e w3 ⟨rfl, hB3, hG3⟩
        have hX3 : Boxes w.heap.size b order 0 0 w3 := HV.out.1.keep fun y hy1 hy2 => hG3.block y (by omega) (by omega)
        have hh4 := one_cell hX3.x4
        have hh5 := one_cell hX3.x5
        obtain ⟨d4, g4⟩ := hh4
        obtain ⟨d5, g5⟩ := hh5
        have H3 := Lib.hid (And.intro hX3 (And.intro hB3 hG3))
        clear hX3 hB3 hG3
        gi_wp2
        have hh := H3.out.1.put4 (p2 := (x : Int))
        have hh2 := hh.put5 (e2 := 0)
        refine ⟨own, ⟨?_, ?_, ?_, ?_, ?_, fun _ _ => rfl, fun _ h => .inl h⟩, rfl, HV.out.2.2.2.1, x, rfl, HV.out.2.1, HV.out.2.2.1, ?_, hh2⟩
        · exact H3.out.2.2.os
        · exact H3.out.2.2.tape
        · exact H3.out.2.2.output
        · rw [setCell_size, setCell_size]; exact H3.out.2.2.size
        · intro y hy hyn
          rw [HV.out.2.2.2.1] at hyn
          have hyo := (HO.out.2.2.2.2.2.1 y).1 hyn
          rw [twoFar _ _ _ _ _ (by omega)]
          exact H3.out.2.2.block y hy (by omega)
        · refine H3.out.2.1.keep ?_
          rw [twoFar _ _ _ _ _ (by omega)]
      case done =>
        rintro own xs V hxs ⟨ho, hnil, hBV, hXV, hrV⟩ hKV hd hdv
        have hK2 := hKV.block
        have hkeep : ∀ x, x < WA.heap.size → ¬ (x = b ∨ (w.heap.size ≤ x ∧ x ≤ w.heap.size + 1 + 1 + 1) ∨ x = r) → V.heap[x]? = WA.heap[x]? := fun x hx hn => hK2 x hx ((HO.out.2.2.2.2.2.1 x).2 hn)
        have hbV : Grow1 b w V := by
          have h1 := HX.out.2.2.1
          have h2 := HO.out.2.2.2.1
          refine ⟨hKV.os.trans (h2.os.trans h1.os), hKV.tape.trans (h2.tape.trans h1.tape), hKV.output.trans (h2.output.trans h1.output), Nat.le_trans h1.size (Nat.le_trans h2.size hKV.size), fun x hx hxb => ?_⟩
          have := h1.size
          have := HR.out
          rw [hkeep x (by omega) (by omega), h2.block x (by omega), h1.block x hx hxb]
        have hMV : Marks (w.heap.size + 4) V V.heap.size ({ target := .collected WA.heap.size, args := #[] } :: ds) := by
          refine ⟨WA.heap.size, by omega, lt_of_heap hdv, rfl, hdv, HX.out.2.2.2.1.keep (by omega) fun x hx hxd => ?_⟩
          have hxl := lt_of_heap hxd
          have hxr : x ≠ r := fun e => by rw [e, HX.out.2.2.2.2.2.1] at hxd; cases hxd
          rw [hkeep x (by omega) (by omega), HO.out.2.2.2.1.block x hxl]
          exact hxd
        have hfn : firstK Fr k (N + 1 - k) = firstK Fr (k + 1) (N + 1 - (k + 1)) := by
          rw [show N + 1 - k = (N + 1 - (k + 1)) + 1 by omega, firstK_nil (least_nil (hxs.symm.trans hnil))]
        obtain ⟨v6, vf6⟩ := one_cell hrV
        have hVr := lt_of_heap hrV
        have hV5 := lt_of_heap hXV.x5
        have hkk : IntKind.i64.wrap ((k : Int) + 1) = ((k + 1 : Nat) : Int) := by rw [IntWalk.i64_in _ (by omega)]; rfl
        have HL := Lib.hid (And.intro hMV (And.intro hXV (And.intro hBV (And.intro hbV hfn))))
        clear hK2 hkeep hbV hMV hfn hXV hBV hKV hd hdv hxs hnil hrV
        clear c6 c22 c44 c55 f6 f44 f55 c6q c2q hc1'
        go_wp2
        refine HK.out (N + 1 - (k + 1)) _ _ (by omega) ?_
        refine ⟨k + 1, V.heap.size, _, _, _, _, _, _, _, _, _, _, _, _, _, _, _, _, _, _, _, _, _, _, _, _, _, _, _, _, _, _, _, _, _, _, rfl, by omega, .inl (by omega), by omega, HX.out.2.2.2.2.1.trans HL.out.2.2.2.2, by omega, ?_, HL.out.2.1.keep fun x _ _ => alloc_old _ _ _ (by omega), HL.out.2.2.1.keep (alloc_old _ _ _ HL.out.2.2.1.lt), HL.out.2.2.2.1.alloc _, HL.out.1.keep (by simp) fun x hx hxd => ?_, rfl⟩
        · rw [heapAlloc, if_pos rfl]; rfl
        · rw [alloc_old _ _ _ (lt_of_heap hxd)]; exact hxd
      case stop =>
        rintro own c pre V hSp ⟨rfl, ho, p, rfl, hp1, hp2, hBV, hXV⟩ hKV hd hdv
        have hK2 := hKV.block
        have hkeep : ∀ x, x < WA.heap.size → ¬ (x = b ∨ (w.heap.size ≤ x ∧ x ≤ w.heap.size + 1 + 1 + 1) ∨ x = r) → V.heap[x]? = WA.heap[x]? := fun x hx hn => hK2 x hx ((HO.out.2.2.2.2.2.1 x).2 hn)
        have hbV : Grow1 b w V := by
          have h1 := HX.out.2.2.1
          have h2 := HO.out.2.2.2.1
          refine ⟨hKV.os.trans (h2.os.trans h1.os), hKV.tape.trans (h2.tape.trans h1.tape), hKV.output.trans (h2.output.trans h1.output), Nat.le_trans h1.size (Nat.le_trans h2.size hKV.size), fun x hx hxb => ?_⟩
          have := h1.size
          have := HR.out
          rw [hkeep x (by omega) (by omega), h2.block x (by omega), h1.block x hx hxb]
        have hMV : Marks (w.heap.size + 4) V V.heap.size ({ target := .collected WA.heap.size, args := #[] } :: ds) := by
          refine ⟨WA.heap.size, by omega, lt_of_heap hdv, rfl, hdv, HX.out.2.2.2.1.keep (by omega) fun x hx hxd => ?_⟩
          have hxl := lt_of_heap hxd
          have hxr : x ≠ r := fun e => by rw [e, HX.out.2.2.2.2.2.1] at hxd; cases hxd
          rw [hkeep x (by omega) (by omega), HO.out.2.2.2.1.block x hxl]
          exact hxd
        have hfn : firstK Fr order (N + 1 - order) = some (k, p) := by
          obtain ⟨q, hq1, hq2, hq3⟩ := hSp
          have hl := least_head hq1 hq3.symm
          rw [HX.out.2.2.2.2.1, show N + 1 - k = (N - k) + 1 by omega, firstK_cons hl]
        have HL := Lib.hid (And.intro hMV (And.intro hXV (And.intro hBV (And.intro hbV hfn))))
        clear hK2 hkeep hbV hMV hfn hXV hBV hKV hd hdv hSp
        gi_wp2
        rw [HL.out.2.2.2.2]
        refine alloc_leave HL.out.1 rfl rfl HL.out.2.1 fun V' hs => ⟨rfl, ?_, ?_, hok, hle, hp1, hp2⟩
        · refine ⟨hs.os.trans HL.out.2.2.2.1.os, hs.tape.trans HL.out.2.2.2.1.tape, hs.output.trans HL.out.2.2.2.1.output, by rw [hs.size]; exact HL.out.2.2.2.1.size, fun x hx hxb => ?_⟩
          rw [hs.block x (by omega)]
          exact HL.out.2.2.2.1.block x hx hxb
        · exact HL.out.2.2.1.keep (hs.block b (by omega))
    · have e1 : decide ((k : Int) ≤ (N : Int)) = false := by simp; omega
      go_wp2_with (fail)
      go_quiet (fail)
      go_wp2_with (fail)
      have hz : N + 1 - k = 0 := by omega
      have hfn := HX.out.2.2.2.2.1
      rw [hz, firstK_zero] at hfn
      rw [hfn]
      have hrS := HX.out.2.2.1.size
      refine alloc_leave (p := 0) (e := 5) (HX.out.2.2.2.1.keep (Nat.le_refl _) fun x hx hd => ?_) rfl rfl ((HX.out.1.drewN _).put4.put5) fun V' hs => ⟨rfl, ?_, ?_⟩
      · rw [twoFar _ _ _ _ _ (by omega)]
        exact hd
      · refine ⟨hs.os.trans HX.out.2.2.1.os, hs.tape.trans HX.out.2.2.1.tape, hs.output.trans HX.out.2.2.1.output, by rw [hs.size, setCell_size, setCell_size]; exact hrS, fun x hx hxb => ?_⟩
        rw [hs.block x (by omega), twoFar _ _ _ _ _ (by omega)]
        exact HX.out.2.2.1.block x hx hxb
      · refine HX.out.2.1.keep ?_
        rw [hs.block b (by omega), twoFar _ _ _ _ _ (by omega)]
        rfl
end Bu
end Go.Proofs.Ytlknhbcambdccaa
namespace Go.Proofs.Ytlknhbcambdccaa
open Go.RowKit
attribute [local go_sem] Oper.semAt_some
namespace Bu

def cnt (S : Nat → Bool) : Nat := (members S 1024).length
theorem cnt_le (S : Nat → Bool) : cnt S ≤ 1024 := members_len S 1024
theorem cnt_of {S : Nat → Bool} {xs : List Nat} (h : xs = members S 1024) : xs.length = cnt S := by rw [h]; rfl
attribute [irreducible] cnt

/-- How many blocks of an order the first j orders from it up make. -/
def roomJ (Fr : Nat → Nat → Bool) (order : Nat) : Nat → Nat
  | 0 => 0
  | j + 1 => roomJ Fr order j + cnt (Fr (order + j)) * 2 ^ j
theorem roomJ_le (Fr : Nat → Nat → Bool) (order : Nat) : ∀ j, j ≤ 11 → roomJ Fr order j ≤ j * 2097152 := by
  intro j
  induction j with
  | zero => intro _; simp [roomJ]
  | succ j ih =>
    intro hj
    rw [roomJ]
    have h1 := ih (by omega)
    have h2 : cnt (Fr (order + j)) * 2 ^ j ≤ 1024 * 2048 := Nat.mul_le_mul (cnt_le _) (pow_small (by omega))
    omega

structure RBoxes (S order n : Nat) (V : World) : Prop where
  x3 : V.heap[S]? = some (.cells #[.int .i64 (order : Int)] 3 (0, 0))
  x6 : V.heap[S + 1]? = some (.cells #[.int .i64 (n : Int)] 3 (0, 0))
theorem RBoxes.keep {S order n : Nat} {V V' : World} (h : RBoxes S order n V) (hk : ∀ x, (x = S ∨ x = S + 1) → V'.heap[x]? = V.heap[x]?) : RBoxes S order n V' :=
  ⟨(hk _ (.inl rfl)).trans h.x3, (hk _ (.inr rfl)).trans h.x6⟩

/-- The loop of Room. -/
def RoomI (w : World) (b N order : Nat) (Fr Gv : Nat → Nat → Bool) (m : Nat) (a : Act) (W : World) : Prop :=
  ∃ (k j r : Nat) (ds : List Deferred) (u2 u8 u9 u10 u11 u12 u13 u14 u15 u16 u17 u18 u19 u20 u21 u22 u23 u24 u25 u26 u27 u28 u29 u30 u31 u32 u33 u34 u35 u36 u37 u38 u39 u40 : Value), m = N + 1 - k ∧ k = order + j ∧ (k ≤ N + 1 ∨ j = 0) ∧ k ≤ 11 ∧
    w.heap.size + 1 < r ∧ W.heap[r]? = some (.cells #[.int .i64 (k : Int)] 3 (0, 0)) ∧ RBoxes w.heap.size order (roomJ Fr order j) W ∧ Below w.heap.size w W ∧ Marks (w.heap.size + 2) W W.heap.size ds ∧
    a = ⟨#[.pointer (some ⟨b, 0, none⟩), .int .i64 (order : Int), u2, .pointer (some ⟨w.heap.size, 0, none⟩), .int .i64 0, .int .i64 0, .pointer (some ⟨w.heap.size + 1, 0, none⟩), .pointer (some ⟨r, 0, none⟩), u8, u9, u10, u11, u12, u13, u14, u15, u16, u17, u18, u19, u20, u21, u22, u23, u24, u25, u26, u27, u28, u29, u30, u31, u32, u33, u34, u35, u36, u37, u38, u39, u40], ds⟩

set_option maxRecDepth 100000 in
set_option maxHeartbeats 2000000 in
theorem room_ok (w : World) (b N order : Nat) (Fr Gv : Nat → Nat → Bool) (hB : Bu w b N Fr Gv) (hN : N ≤ 10) (ho : order ≤ 10) :
    Calls Try.prog 51 #[.pointer (some ⟨b, 0, none⟩), .int .i64 order] w fun e w' => e = .returned (.tuple #[.int .i64 (roomJ Fr order (N + 1 - order)), .int .i64 0]) ∧ Below w.heap.size w w' := by
  have hbl := hB.lt
  obtain ⟨W0, hW0⟩ : ∃ W0, W0 = w.alloc (.cells #[.int .i64 (order : Int)] 3) := ⟨_, rfl⟩
  have hs0 : W0.heap.size = w.heap.size + 1 := by rw [hW0]; simp
  have hb0 : Below w.heap.size w W0 := by rw [hW0]; exact (Below.refl _ _).alloc (Nat.le_refl _) _
  have hx0 : W0.heap[w.heap.size]? = some (.cells #[.int .i64 (order : Int)] 3 (0, 0)) := by rw [hW0, heapAlloc, if_pos rfl]
  obtain ⟨c3, _⟩ := one_cell hx0
  have HIs := Lib.hid (is_ok W0 b N Fr Gv (hB.keep (hb0.block b hbl)))
  have H0 := Lib.hid (And.intro hb0 (And.intro hx0 hB))
  have hc0 : ¬ (order : Int) < 0 := by omega
  have hc1 : ¬ (order : Int) > 10 := by omega
  clear hB hb0 hx0
  refine (callsIn_wide (n := 8)).1 ?_
  refine callsIn_of_wp_marks Try.func51 rfl trivial ?_ rfl
  simp only [Try.ntmps51, List.size_toArray, List.length_cons, List.length_nil, Nat.reduceAdd, Nat.reduceSub, Array.replicate_succ, Array.replicate_zero, List.push_toArray, List.append_toArray, List.nil_append, List.cons_append]
  refine wpIn_wide.2 ?_
  go_wp2_with (fail)
  rw [← hW0]
  clear hW0
  go_wp2_with (go_at_call 47; refine HIs.out.mono ?_; rintro e w' ⟨rfl, rfl⟩)
  refine (wpIn_wide (n := 8)).1 ?_
  refine loopK (RoomI w b N order Fr Gv) (N + 1 - order) ?_ ?_
  · refine ⟨order, 0, w.heap.size + 1 + 1, [], _, _, _, _, _, _, _, _, _, _, _, _, _, _, _, _, _, _, _, _, _, _, _, _, _, _, _, _, _, _, _, _, _, _, rfl, rfl, .inr rfl, by omega, by omega, ?_, ⟨?_, ?_⟩, (H0.out.1.alloc H0.out.1.size _).alloc (by have := H0.out.1.size; simp; omega) _, trivial, rfl⟩
    · rw [heapAlloc, if_pos (by simp; omega)]
    · rw [heapAlloc, if_neg (by simp; omega), heapAlloc, if_neg (by omega)]; exact H0.out.2.1
    · rw [heapAlloc, if_neg (by simp; omega), heapAlloc, if_pos (by omega)]; rfl
  · rintro m a W ⟨k, j, r, ds, u2, u8, u9, u10, u11, u12, u13, u14, u15, u16, u17, u18, u19, u20, u21, u22, u23, u24, u25, u26, u27, u28, u29, u30, u31, u32, u33, u34, u35, u36, u37, u38, u39, u40, hm, hkj, hkN, hk11, hr, hrk, hX, hbW, hM, rfl⟩ K hK
    have HB2 := H0.out.2.2
    have hBW : Bu W b N Fr Gv := HB2.keep (hbW.block b hbl)
    have hbW2 : b < W.heap.size := hBW.lt
    have hc1' := hBW.head.2
    have hr2 := one_cell hrk
    have h33 := one_cell hX.x3
    have h66 := one_cell hX.x6
    obtain ⟨c6, f6⟩ := hr2
    obtain ⟨c33, _⟩ := h33
    obtain ⟨c66, f66⟩ := h66
    have hrl := lt_of_heap hrk
    have h5l := lt_of_heap hX.x6
    have HX := Lib.hid (And.intro hX (And.intro hBW (And.intro hbW (And.intro hM (And.intro hrk hkN)))))
    have HK := Lib.hid hK
    have HR := Lib.hid hr
    clear hX hBW hbW hM hrk hK hr c3 HIs H0 HB2
    have HN := Lib.hid (And.intro hkN hkj)
    clear hkN hkj
    refine wpIn_wide.2 ?_
    by_cases hle : k ≤ N
    · have e1 : (k : Int) ≤ (N : Int) := by omega
      have e2 : (0 : Int) ≤ (k : Int) := by omega
      have e3 : (k : Int) < 11 := by omega
      go_wp2_with (fail)
      go_quiet (fail)
      go_wp2_with (fail)
      generalize hq : W.drewN _ = Wq
      have c6q : Wq.cell? ⟨r, 0, none⟩ = some (.int .i64 (k : Int)) := by rw [← hq]; exact c6
      have hsq : Wq.heap.size = W.heap.size := by rw [← hq]; rfl
      have hbq : Below W.heap.size W Wq := by rw [← hq]; exact ⟨rfl, rfl, rfl, Nat.le_refl _, fun _ _ => rfl⟩
      clear hq
      obtain ⟨WA, hWA⟩ : ∃ WA, WA = Wq.drew.alloc (.cells #[.pointer (some ⟨b, 2 + k * 16, none⟩)] 144) := ⟨_, rfl⟩
      have hsA : WA.heap.size = W.heap.size + 1 := by rw [hWA]; simp [hsq]
      have hbA : Below W.heap.size W WA := by rw [hWA]; exact (hbq.drew).alloc hbq.size _
      have hDA : WA.heap[W.heap.size]? = some (.cells #[.pointer (some ⟨b, 2 + k * 16, none⟩)] 144 (0, 0)) := by rw [hWA, heapAlloc, if_pos (by simp [hsq])]
      have HAq := Lib.hid (all_ok Wq.drew b (2 + k * 16))
      rw [← hWA] at HAq
      have hsq' : Wq.drew.heap.size = W.heap.size := hsq
      clear hWA
      refine wp_region_still_tail 5 (by kernel_rfl) (by kernel_rfl) ?_
      simp only [List.take_succ_cons, List.take_zero, List.drop_succ_cons, List.drop_zero]
      change wpStill _ _ (World.drew _) (fun a' => wpList _ _ _ _ a' (World.drew _)) _ _
      repeat still_step
      refine wpStill_nil ?_
      go_wp2_with (go_at_call 73; refine HAq.out.mono ?_; rintro e w' ⟨rfl, hw'⟩; rw [hsq', hw'])
      refine (wpIn_wide (n := 8)).1 ?_
      have hrA : WA.heap[r]? = some (.cells #[.int .i64 (k : Int)] 3 (0, 0)) := (hbA.block r hrl).trans HX.out.2.2.2.2.1
      have hXA : RBoxes w.heap.size order (roomJ Fr order j) WA := HX.out.1.keep fun x hx => hbA.block x (by omega)
      obtain ⟨ob, hob⟩ : ∃ ob, WA.heap[b]? = some ob := ⟨_, Array.getElem?_eq_getElem (by omega)⟩
      have hEb : ∀ V : World, V.heap[b]? = some ob → Bu V b N Fr Gv := fun V hV => (HX.out.2.1.keep (hbA.block b hbW2)).keep (hV.trans hob.symm)
      obtain ⟨own0, hown⟩ : ∃ own0 : Ow, own0 = (fun x => if x = b ∨ x = w.heap.size ∨ x = w.heap.size + 1 ∨ x = r then some 0 else none) := ⟨_, rfl⟩
      have hoz : ∀ x, own0 x = none ↔ ¬ (x = b ∨ x = w.heap.size ∨ x = w.heap.size + 1 ∨ x = r) := fun x => by rw [hown]; simp
      have ho1 : ∀ x, (x = b ∨ x = w.heap.size ∨ x = w.heap.size + 1 ∨ x = r) → own0 x ≠ none := fun x hx h => (hoz x).1 h hx
      have HO := Lib.hid (And.intro hEb (And.intro hXA (And.intro hrA (And.intro hbA (And.intro hDA (And.intro hoz (And.intro ho1 hob)))))))
      clear hEb hXA hrA hbA hDA hoz hown ho1 HAq hob
      refine rangeZ (I := fun own pre V => own = own0 ∧ V.heap[b]? = some ob ∧ RBoxes w.heap.size order (roomJ Fr order j + pre.length * 2 ^ j) V ∧ V.heap[r]? = some (.cells #[.int .i64 (k : Int)] 3 (0, 0)))
        (Ix := fun _ _ _ _ => False)
        rfl (by omega) (gf := 92) (lb := #[.pointer (some ⟨W.heap.size, 0, none⟩)]) rfl trivial (enters_of Try.func92 (by kernel_rfl) rfl) (allseq (8 - 1) (by omega) W.heap.size b (2 + k * 16) (Fr k))
        own0 ?hf0 ?hD ?hR (fun _ => rfl) ?hE ?hI (fun _ _ _ _ _ h _ _ => h) ?h0 (fun x : Nat => { tmps := #[.pointer (some ⟨b, 0, none⟩), .int .i64 (order : Int), u2, .pointer (some ⟨w.heap.size, 0, none⟩), .int .i64 0, .int .i64 0, .pointer (some ⟨w.heap.size + 1, 0, none⟩), .pointer (some ⟨r, 0, none⟩), u8, u9, u10, u11, u12, u13, u14, u15, u16, u17, .int .i64 (k : Int), .pointer (some ⟨b, 0, none⟩), .pointer (some ⟨b, 0, none⟩), .pointer (some ⟨b, 1, none⟩), .int .i64 (N : Int), .bool true, u24, u25, .pointer (some ⟨b, 0, none⟩), .int .i64 (k : Int), .pointer (some ⟨b, 0, none⟩), .pointer (some ⟨b, 2, none⟩), .pointer (some ⟨b, 2 + k * 16, none⟩), .func (.func 92) #[] #[.pointer (some ⟨W.heap.size, 0, none⟩)], .int .i64 (x : Int), u33, u34, u35, u36, u37, u38, u39, u40], defers := [] }) ?assign ?body ?done ?stop
      case hf0 =>
        intro x hx
        have := (not_congr (HO.out.2.2.2.2.2.1 x)).1 hx
        omega
      case hD =>
        intro V hV
        exact ⟨by have := hV.size; omega, (one_cell ((hV.block _ (by omega)).trans HO.out.2.2.2.2.1)).1⟩
      case hR =>
        rintro x rfl
        exact ⟨(HO.out.2.2.2.2.2.1 _).2 (by have := HX.out.2.2.1.size; omega), by omega⟩
      case hE =>
        rintro own pre V ⟨_, h, _⟩
        exact (HO.out.1 V h).free (by omega)
      case hI =>
        rintro own pre V V' ⟨rfl, h1, h2, h3⟩ hs hk
        exact ⟨rfl, (hk _ (HO.out.2.2.2.2.2.2.1 _ (.inl rfl)) (lt_of_heap h1)).trans h1, h2.keep fun x hx => hk _ (HO.out.2.2.2.2.2.2.1 _ (by omega)) (by have := lt_of_heap h2.x6; omega), (hk _ (HO.out.2.2.2.2.2.2.1 _ (.inr (.inr (.inr rfl)))) (lt_of_heap h3)).trans h3⟩
      case h0 => exact ⟨rfl, HO.out.2.2.2.2.2.2.2, by simpa using HO.out.2.1, HO.out.2.2.1⟩
      case assign =>
        intro l x V K hK
        gi_wp2
        exact hK
      case body =>
        rintro l own pre x V ⟨ho, hbV, hXV, hrV⟩ hfV ⟨hx1, hx2, hx3⟩
        have hjk := HN.out.2
        have hsub : IntKind.i64.wrap ((k : Int) - (order : Int)) = (j : Int) := by rw [IntWalk.i64_in _ (by omega)]; omega
        have hpre : pre.length ≤ 1024 := by have := members_len (Fr k) x; rw [← hx3] at this; omega
        have hrm := roomJ_le Fr order j (by omega)
        have hpj := pow_small (k := j) (by omega)
        have hmul : pre.length * 2 ^ j ≤ 1024 * 2048 := Nat.mul_le_mul hpre hpj
        obtain ⟨P, hP⟩ : ∃ P : Nat, P = 2 ^ j := ⟨_, rfl⟩
        have hpow : IntKind.i64.wrap ((2 : Int) ^ j) = (P : Int) := by rw [hP]; exact pow_i64 j (by omega)
        obtain ⟨n, hn⟩ : ∃ n : Nat, n = roomJ Fr order j + pre.length * 2 ^ j := ⟨_, rfl⟩
        rw [← hn] at hXV
        rw [← hP] at hpj
        have hsum : IntKind.i64.wrap ((n : Int) + (P : Int)) = ((n + P : Nat) : Int) := by rw [IntWalk.i64_in _ (by omega)]; rfl
        have hj0 : (0 : Int) ≤ (j : Int) := by omega
        have hmin : min j 64 = j := by omega
        obtain ⟨v3, _⟩ := one_cell hXV.x3
        obtain ⟨v6, vf6⟩ := one_cell hXV.x6
        obtain ⟨v7, _⟩ := one_cell hrV
        have HV := Lib.hid (And.intro hXV (And.intro hbV (And.intro hrV (And.intro ho (And.intro hn hP)))))
        clear hXV hbV hrV ho hn hP hx1 hx2 hx3 hjk hpre hrm hpj hmul c6 c33 c66 f6 f66 c6q hc1'
        gi_wp2_with (fail)
        gi_region
        all_goals
          refine show ∃ own', Keeps own own' V _ ∧ (own' = own0 ∧ _ ∧ _ ∧ _) from ⟨own, ⟨rfl, rfl, rfl, ?_, ?_, fun _ _ => rfl, fun _ h => .inl h⟩, HV.out.2.2.2.1, ?_, ⟨?_, ?_⟩, ?_⟩
          · exact Nat.le_of_eq (setCell_size _ _ _).symm
          · intro y hy hyn
            rw [HV.out.2.2.2.1] at hyn
            have hyo := (HO.out.2.2.2.2.2.1 y).1 hyn
            exact setCell_far _ _ _ _ (by show y ≠ w.heap.size + 1; omega)
          · exact (setCell_far _ _ _ _ (by show b ≠ w.heap.size + 1; omega)).trans HV.out.2.1
          · exact (setCell_far _ _ _ _ (by show w.heap.size ≠ w.heap.size + 1; omega)).trans HV.out.1.x3
          · refine (setCell_at _ _ _ _ _ _ HV.out.1.x6).trans ?_
            have : roomJ Fr order j + (pre ++ [x]).length * 2 ^ j = n + P := by
              rw [HV.out.2.2.2.2.1, HV.out.2.2.2.2.2, List.length_append, List.length_singleton, Nat.add_mul, Nat.one_mul, Nat.add_assoc]
            rw [this]; rfl
          · exact (setCell_far _ _ _ _ (by have := HR.out; show r ≠ w.heap.size + 1; omega)).trans HV.out.2.2.1
      case done =>
        rintro own xs V hxs ⟨ho, hbV, hXV, hrV⟩ hKV hd hdv
        have hK2 := hKV.block
        have hkeep : ∀ x, x < WA.heap.size → ¬ (x = b ∨ x = w.heap.size ∨ x = w.heap.size + 1 ∨ x = r) → V.heap[x]? = WA.heap[x]? := fun x hx hn => hK2 x hx ((HO.out.2.2.2.2.2.1 x).2 hn)
        have hBl : Below w.heap.size w V := by
          have h1 := HX.out.2.2.1
          have h2 := HO.out.2.2.2.1
          refine ⟨hKV.os.trans (h2.os.trans h1.os), hKV.tape.trans (h2.tape.trans h1.tape), hKV.output.trans (h2.output.trans h1.output), Nat.le_trans h1.size (Nat.le_trans h2.size hKV.size), fun x hx => ?_⟩
          have := h1.size
          have := HR.out
          by_cases hxb : x = b
          · rw [hxb, hbV, ← HO.out.2.2.2.2.2.2.2, h2.block b (by omega), h1.block b (by omega)]
          · rw [hkeep x (by omega) (by omega), h2.block x (by omega), h1.block x hx]
        have hMV : Marks (w.heap.size + 2) V V.heap.size ({ target := .collected WA.heap.size, args := #[] } :: ds) := by
          refine ⟨WA.heap.size, by omega, lt_of_heap hdv, rfl, hdv, HX.out.2.2.2.1.keep (by omega) fun x hx hxd => ?_⟩
          have hxl := lt_of_heap hxd
          have hxr : x ≠ r := fun e => by rw [e, HX.out.2.2.2.2.1] at hxd; cases hxd
          rw [hkeep x (by omega) (by omega), HO.out.2.2.2.1.block x hxl]
          exact hxd
        rw [cnt_of hxs] at hXV
        obtain ⟨v7, vf7⟩ := one_cell hrV
        have hVr := lt_of_heap hrV
        have hV5 := lt_of_heap hXV.x6
        have hkk : IntKind.i64.wrap ((k : Int) + 1) = ((k + 1 : Nat) : Int) := by rw [IntWalk.i64_in _ (by omega)]; rfl
        have HL := Lib.hid (And.intro hMV (And.intro hXV hBl))
        clear hK2 hkeep hMV hXV hKV hd hdv hxs hBl hrV hbV
        clear c6 c33 c66 f6 f66 c6q hc1'
        go_wp2
        refine HK.out (N + 1 - (k + 1)) _ _ (by omega) ?_
        have hjk := HN.out.2
        have hcn : cnt (Fr k) = cnt (Fr (order + j)) := by rw [hjk]
        rw [hcn] at HL
        refine ⟨k + 1, j + 1, V.heap.size, _, _, _, _, _, _, _, _, _, _, _, _, _, _, _, _, _, _, _, _, _, _, _, _, _, _, _, _, _, _, _, _, _, _, _, rfl, by omega, .inl (by omega), by omega, by omega, ?_, HL.out.2.1.keep fun x hx => alloc_old _ _ _ (by omega), HL.out.2.2.alloc HL.out.2.2.size _, HL.out.1.keep (by simp) fun x hx hxd => ?_, rfl⟩
        · rw [heapAlloc, if_pos rfl]; rfl
        · rw [alloc_old _ _ _ (lt_of_heap hxd)]; exact hxd
      case stop =>
        rintro own c pre V hSp h
        exact h.elim
    · have e1 : decide ((k : Int) ≤ (N : Int)) = false := by simp; omega
      go_wp2_with (fail)
      go_quiet (fail)
      go_wp2_with (fail)
      refine leaves_marks (w.heap.size + 2) ds _ _ (HX.out.2.2.2.1.keep (Nat.le_refl _) fun x hx hd => hd) fun V' hs => ⟨_, results_tmp2 rfl _ _ _, ?_, ?_⟩
      · have hjj : j = N + 1 - order := by have := HN.out.1; have := HN.out.2; omega
        rw [← hjj]; rfl
      · have h1 := HX.out.2.2.1
        exact ⟨hs.os.trans h1.os, hs.tape.trans h1.tape, hs.output.trans h1.output, by rw [hs.size]; exact h1.size, fun x hx => by rw [hs.block x (by omega)]; exact h1.block x hx⟩
end Bu
end Go.Proofs.Ytlknhbcambdccaa
namespace Go.Proofs.Ytlknhbcambdccaa
open Go.RowKit
namespace Bu

/-- What Owner hands back. -/
def OwnerV (page : Nat) : Option Nat → Value
  | some k => .tuple #[.agg #[.int .i64 ((page / 2 ^ k * 2 ^ k : Nat) : Int), .int .i64 (k : Int)], .int .i64 0]
  | none => .tuple #[.agg #[.int .i64 0, .int .i64 0], .int .i64 4]

theorem two_cells {w : World} {b T : Nat} {x y : Value} (h : w.heap[b]? = some (.cells #[x, y] T (0, 0))) : w.cell? ⟨b, 0, none⟩ = some x ∧ w.cell? ⟨b, 1, none⟩ = some y ∧ w.frozen? ⟨b, 0, none⟩ = false ∧ w.frozen? ⟨b, 1, none⟩ = false := by
  refine ⟨?_, ?_, ?_, ?_⟩ <;> simp [World.cell?, World.frozen?, h]

set_option maxRecDepth 100000 in
set_option maxHeartbeats 2000000 in
theorem owner_ok (w : World) (b N page : Nat) (Fr Gv : Nat → Nat → Bool) (hB : Bu w b N Fr Gv) (hN : N ≤ 10) (hp : page < 2 ^ N) :
    Calls Try.prog 61 #[.pointer (some ⟨b, 0, none⟩), .int .i64 page] w fun e w' => e = .returned (OwnerV page (fromK Gv page 0 11)) ∧ Below w.heap.size w w' := by
  have hbl := hB.lt
  have h1024 : 2 ^ N ≤ 1024 := by
    have : 2 ^ N ≤ 2 ^ 10 := Nat.pow_le_pow_right (by omega) hN
    omega
  obtain ⟨W1, hW1⟩ : ∃ W1, W1 = w.alloc (.cells #[.int .i64 0, .int .i64 0] 126) := ⟨_, rfl⟩
  have hbW : Below w.heap.size w W1 := by rw [hW1]; exact below_box w _
  have hcell : W1.heap[w.heap.size]? = some (.cells #[.int .i64 0, .int .i64 0] 126 (0, 0)) := by rw [hW1]; exact heap_alloc_new _ _
  obtain ⟨y0, y1, z0, z1⟩ := two_cells hcell
  have hB1 : Bu W1 b N Fr Gv := hB.keep (hbW.block b hbl)
  have hc1 := hB1.head.2
  have HIs := Lib.hid (is_ok W1 b N Fr Gv hB1)
  obtain ⟨M, hM⟩ : ∃ M : Nat, M = 2 ^ N := ⟨_, rfl⟩
  have hpw := pow_w64 N (by omega)
  rw [← hM] at hpw hp h1024
  have hp2 : page < 1024 := by omega
  have e3 : ¬ (page : Int) < 0 := by omega
  have e4 : ¬ (M : Int) ≤ (page : Int) := by omega
  have e5 : (0 : Int) ≤ (N : Int) := by omega
  have hd4 : decide (M ≤ page) = false := by simp; omega
  have hd3 : decide ((page : Int) < 0) = false := by simp
  obtain ⟨r, hr⟩ : ∃ r, r = fromK Gv page 0 11 := ⟨_, rfl⟩
  rw [← hr]
  have HB := Lib.hid (And.intro hB1 (And.intro hbW hr))
  clear hB hB1 hbW hM hr
  go_enter Try.func61, Try.ntmps61
  go_wp2_with (fail)
  rw [← hW1]
  clear hW1
  go_wp2_with (go_at_call 47; refine HIs.out.mono ?_; rintro e w' ⟨rfl, rfl⟩)
  simp only [hpw]
  clear hpw
  go_loopw [24] (fun i wr => ∃ k : Nat, k ≤ 11 ∧ i = .int .i64 k ∧ r = fromK Gv page k (11 - k) ∧ W1 = wr) (fun i _ => 11 - (intOf i).toNat)
  case atStart => exact ⟨0, by omega, rfl, HB.out.2.2, rfl⟩
  case round =>
    obtain ⟨k, hk, rfl, hr, rfl⟩ := hrel
    by_cases hlt : k < 11
    · have hoff : page / 2 ^ k * 2 ^ k < 1024 := Nat.lt_of_le_of_lt (Nat.div_mul_le_self _ _) hp2
      have hoffv : bits .andNot .i64 (page : Int) (wrap64 (wrap64 ((2 : Int) ^ k) - 1)) = ((page / 2 ^ k * 2 ^ k : Nat) : Int) := by rw [← w64, ← w64]; exact off_val page k hp2 (by omega)
      obtain ⟨p, hpp⟩ : ∃ p, p = page / 2 ^ k * 2 ^ k := ⟨_, rfl⟩
      have HH := Lib.hid (has_ok W1 b (178 + k * 16) (page / 2 ^ k * 2 ^ k) (Gv k) (HB.out.1.given (by omega)) hoff)
      have e1 : (0 : Int) ≤ (k : Int) := by omega
      have e2 : (k : Int) < 11 := by omega
      rw [show 11 - k = (11 - (k + 1)) + 1 by omega, fromK] at hr
      rw [← hpp] at hoffv HH hr
      cases hS : Gv k p with
      | true =>
        rw [hS] at HH
        rw [hS, if_pos rfl] at hr
        have HR := Lib.hid (And.intro hr hpp)
        clear hr hpp hoff
        go_wp2_with (go_at_call 86; refine HH.out.mono ?_; rintro e w' ⟨rfl, rfl⟩)
        have hq := two_cells (w := (W1.setCell ⟨w.heap.size, 0, none⟩ (.int .i64 (p : Int))).setCell ⟨w.heap.size, 1, none⟩ (.int .i64 (k : Int))) (setCell_at _ _ _ _ _ _ (setCell_at _ _ _ _ _ _ hcell))
        obtain ⟨q0, q1, _, _⟩ := hq
        refine bodyPost_ret (v := .tuple #[.agg #[.int .i64 p, .int .i64 k], .int .i64 0]) (by simp [results, Try.results61, go_sem, q0, q1]) rfl ⟨?_, (HB.out.2.1.setCell (p := ⟨w.heap.size, 0, none⟩) (Nat.le_refl _) _).setCell (p := ⟨w.heap.size, 1, none⟩) (Nat.le_refl _) _⟩
        rw [HR.out.1, HR.out.2]; rfl
      | false =>
        rw [hS] at HH
        rw [hS, if_neg (by decide)] at hr
        have HR2 := Lib.hid hr
        clear hr hpp hoff
        go_wp2_with (go_at_call 86; refine HH.out.mono ?_; rintro e w' ⟨rfl, rfl⟩)
        go_roundw
        case rel => exact ⟨k + 1, by omega, by go_num, HR2.out, trivial⟩
        case measure => simp [intOf]; omega
    · obtain rfl : k = 11 := by omega
      rw [Nat.sub_self, fromK] at hr
      subst hr
      go_wp2
      have hq := two_cells (w := (W1.setCell ⟨w.heap.size, 0, none⟩ (.int .i64 0)).setCell ⟨w.heap.size, 1, none⟩ (.int .i64 0)) (setCell_at _ _ _ _ _ _ (setCell_at _ _ _ _ _ _ hcell))
      obtain ⟨q0, q1, _, _⟩ := hq
      exact bodyPost_ret (v := .tuple #[.agg #[.int .i64 0, .int .i64 0], .int .i64 4]) (by simp [results, Try.results61, go_sem, q0, q1]) rfl ⟨rfl, (HB.out.2.1.setCell (p := ⟨w.heap.size, 0, none⟩) (Nat.le_refl _) _).setCell (p := ⟨w.heap.size, 1, none⟩) (Nat.le_refl _) _⟩
theorem block_info : (Try.prog.info? 126).map (fun i => (i.zero.isSome, i.zero.map (fun z => z.cells.size), i.size, i.bytes)) = some (true, some 2, 2, 16) := by kernel_rfl
theorem two_new (V : World) (x y : Value) (T : TypeId) (i : Nat) (u : Value) (h : [x, y][i]? = some u) : (V.alloc (.cells #[x, y] T)).cell? ((⟨V.heap.size, 0, none⟩ : Addr).add i) = some u := by
  obtain ⟨h0, h1, _, _⟩ := two_cells (show (V.alloc (.cells #[x, y] T)).heap[V.heap.size]? = some (.cells #[x, y] T (0, 0)) by rw [heapAlloc, if_pos rfl])
  match i, h with
  | 0, h => injection h with h; subst h; exact h0
  | 1, h => injection h with h; subst h; exact h1
  | n + 2, h => cases h

end Bu
end Go.Proofs.Ytlknhbcambdccaa
namespace Go.Proofs.Ytlknhbcambdccaa
open Go.RowKit
namespace Bu

set_option maxRecDepth 100000 in
set_option maxHeartbeats 1000000 in
theorem owner_bad (w : World) (b N : Nat) (page : Int) (Fr Gv : Nat → Nat → Bool) (hB : Bu w b N Fr Gv) (hN : N ≤ 10) (hp : page < 0 ∨ 2 ^ N ≤ page) :
    Calls Try.prog 61 #[.pointer (some ⟨b, 0, none⟩), .int .i64 page] w fun e w' => e = .returned (.tuple #[.agg #[.int .i64 0, .int .i64 0], .int .i64 7]) ∧ Below w.heap.size w w' := by
  have hbl := hB.lt
  obtain ⟨W1, hW1⟩ : ∃ W1, W1 = w.alloc (.cells #[.int .i64 0, .int .i64 0] 126) := ⟨_, rfl⟩
  have hbW : Below w.heap.size w W1 := by rw [hW1]; exact below_box w _
  have hcell : W1.heap[w.heap.size]? = some (.cells #[.int .i64 0, .int .i64 0] 126 (0, 0)) := by rw [hW1]; exact heap_alloc_new _ _
  obtain ⟨y0, y1, z0, z1⟩ := two_cells hcell
  have hB1 : Bu W1 b N Fr Gv := hB.keep (hbW.block b hbl)
  have hc1 := hB1.head.2
  have HIs := Lib.hid (is_ok W1 b N Fr Gv hB1)
  obtain ⟨M, hM⟩ : ∃ M : Nat, M = 2 ^ N := ⟨_, rfl⟩
  have hpw := pow_w64 N (by omega)
  have hpz : ((2 : Int) ^ N) = (M : Int) := by rw [hM, Int.natCast_pow]; rfl
  rw [← hM] at hpw
  rw [hpz] at hp
  have e5 : (0 : Int) ≤ (N : Int) := by omega
  have HB := Lib.hid hbW
  clear hB hB1 hbW hM hpz
  have hcase : page < 0 ∨ (0 ≤ page ∧ (M : Int) ≤ page) := by omega
  clear hp
  rcases hcase with hc | ⟨hc, hd⟩
  all_goals
    go_enter Try.func61, Try.ntmps61
    go_wp2_with (fail)
    rw [← hW1]
    clear hW1
    go_wp2_with (go_at_call 47; refine HIs.out.mono ?_; rintro e w' ⟨rfl, rfl⟩)
    have hq := two_cells (w := (W1.setCell ⟨w.heap.size, 0, none⟩ (.int .i64 0)).setCell ⟨w.heap.size, 1, none⟩ (.int .i64 0)) (setCell_at _ _ _ _ _ _ (setCell_at _ _ _ _ _ _ hcell))
    obtain ⟨q0, q1, _, _⟩ := hq
    exact bodyPost_ret (v := .tuple #[.agg #[.int .i64 0, .int .i64 0], .int .i64 7]) (by simp [results, Try.results61, go_sem, q0, q1]) rfl ⟨rfl, (HB.out.setCell (p := ⟨w.heap.size, 0, none⟩) (Nat.le_refl _) _).setCell (p := ⟨w.heap.size, 1, none⟩) (Nat.le_refl _) _⟩

set_option maxHeartbeats 1000000 in
theorem room_bad (w : World) (b N : Nat) (order : Int) (Fr Gv : Nat → Nat → Bool) (hB : Bu w b N Fr Gv) (ho : order < 0 ∨ 10 < order) :
    Calls Try.prog 51 #[.pointer (some ⟨b, 0, none⟩), .int .i64 order] w fun e w' => e = .returned (.tuple #[.int .i64 0, .int .i64 7]) ∧ Below w.heap.size w w' := by
  have hbl := hB.lt
  obtain ⟨W0, hW0⟩ : ∃ W0, W0 = w.alloc (.cells #[.int .i64 order] 3) := ⟨_, rfl⟩
  have hb0 : Below w.heap.size w W0 := by rw [hW0]; exact (Below.refl _ _).alloc (Nat.le_refl _) _
  have hx0 : W0.heap[w.heap.size]? = some (.cells #[.int .i64 order] 3 (0, 0)) := by rw [hW0, heapAlloc, if_pos rfl]
  obtain ⟨c3, _⟩ := one_cell hx0
  have HIs := Lib.hid (is_ok W0 b N Fr Gv (hB.keep (hb0.block b hbl)))
  have H0 := Lib.hid hb0
  clear hB hb0 hx0
  have hcase : order < 0 ∨ (0 ≤ order ∧ 10 < order) := by omega
  clear ho
  rcases hcase with hc | ⟨hc, hd⟩
  all_goals
    go_enter Try.func51, Try.ntmps51
    go_wp2_with (fail)
    rw [← hW0]
    clear hW0
    go_wp2_with (go_at_call 47; refine HIs.out.mono ?_; rintro e w' ⟨rfl, rfl⟩)
    go_ret2
    exact ⟨rfl, H0.out⟩
end Bu
end Go.Proofs.Ytlknhbcambdccaa
