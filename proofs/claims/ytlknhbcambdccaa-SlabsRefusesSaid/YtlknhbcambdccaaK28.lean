/- How the reference's cache lies in memory. The reference's small functions: used, empty, Capacity, Sizes. The reference's copied: how bools are appended; one slab more. copied of the reference: the walk. -/
import Derived.Test.YtlknhbcambdccaaK26
import Derived.Test.YtlknhbcambdccaaK27
import Derived.Test.YtlknhbcambdccaaK14
import Derived.Deep.RegionLaw
import Derived.Deep.RegionHeld3
import Derived.RegionTactic
namespace Go.Proofs.Ytlknhbcambdccaa
open Go.RowKit
namespace Sl
open Bu

/-- A slab of the reference, the block of its objects, and its capacity. -/
abbrev RS := Slb × Nat × Nat
def rcells (q : List RS) : List Value := q.flatMap fun x => [.int .i64 (x.1.pg : Int), .slice (some ⟨x.2.1, 0, none⟩) x.1.us.length x.2.2]
theorem rcells_add (p q : List RS) : rcells (p ++ q) = rcells p ++ rcells q := by simp [rcells]
theorem rcells_one' (x : RS) : rcells [x] = [.int .i64 (x.1.pg : Int), .slice (some ⟨x.2.1, 0, none⟩) x.1.us.length x.2.2] := by simp [rcells]
theorem rcells_cons (x : RS) (q : List RS) : rcells (x :: q) = .int .i64 (x.1.pg : Int) :: .slice (some ⟨x.2.1, 0, none⟩) x.1.us.length x.2.2 :: rcells q := by simp [rcells]
theorem rcells_len (q : List RS) : (rcells q).length = q.length * 2 := by
  induction q with
  | nil => rfl
  | cons x q ih => rw [rcells_cons, List.length_cons, List.length_cons, ih, List.length_cons]; omega
theorem rcells_get : ∀ (q : List RS) (j : Nat) (x : RS), q[j]? = some x → (rcells q)[j * 2]? = some (.int .i64 (x.1.pg : Int)) ∧ (rcells q)[j * 2 + 1]? = some (.slice (some ⟨x.2.1, 0, none⟩) x.1.us.length x.2.2) := by
  intro q
  induction q with
  | nil => intro j x h; simp at h
  | cons y q ih =>
    intro j x h
    rw [rcells_cons]
    cases j with
    | zero =>
      simp at h
      subst h
      exact ⟨rfl, rfl⟩
    | succ j =>
      have := ih j x (by simpa using h)
      rw [show (j + 1) * 2 = j * 2 + 2 by omega, show j * 2 + 2 + 1 = (j * 2 + 1) + 2 by omega]
      exact ⟨by simpa using this.1, by simpa using this.2⟩
theorem rcells_cell (q : List RS) : ∀ u ∈ rcells q, u.oneCell' = true := by
  intro u hu
  unfold rcells at hu
  obtain ⟨x, _, hx⟩ := List.mem_flatMap.1 hu
  simp at hx
  rcases hx with rfl | rfl <;> rfl

/-- A slice of two-cell elements that reads so. -/
structure RowAt (w : World) (A : Option Addr) (c : Nat) (q : List RS) : Prop where
  len : q.length ≤ c
  cap : c ≤ maxLen
  nc : A = none → c = 0
  fm : ∀ ad, A = some ad → ∃ g o, ad = ⟨g, o, none⟩
  at_ : ∀ (j : Nat) (x : RS), q[j]? = some x → ∃ g o, A = some ⟨g, o, none⟩ ∧ g < w.heap.size ∧ w.cell? ⟨g, o + j * 2, none⟩ = some (.int .i64 (x.1.pg : Int)) ∧ w.cell? ⟨g, o + j * 2 + 1, none⟩ = some (.slice (some ⟨x.2.1, 0, none⟩) x.1.us.length x.2.2)

theorem RowAt.keep {w w' : World} {A : Option Addr} {c : Nat} {q : List RS} (h : RowAt w A c q) (hs : w.heap.size ≤ w'.heap.size) (hk : ∀ g, A.map (·.block) = some g → g < w.heap.size → w'.heap[g]? = w.heap[g]?) : RowAt w' A c q :=
  ⟨h.len, h.cap, h.nc, h.fm, fun j x hx => by
    obtain ⟨g, o, h1, h2, h3, h4⟩ := h.at_ j x hx
    have e := hk g (by rw [h1]; rfl) h2
    exact ⟨g, o, h1, by omega, (World.cell?_of_block (a := ⟨g, _, none⟩) e).trans h3, (World.cell?_of_block (a := ⟨g, _, none⟩) e).trans h4⟩⟩
theorem RowAt.take {w : World} {A : Option Addr} {c : Nat} {q : List RS} (h : RowAt w A c q) (k : Nat) : RowAt w A c (q.take k) :=
  ⟨Nat.le_trans (List.length_take_le' _ _) h.len, h.cap, h.nc, h.fm, fun j x hx => by
    rw [List.getElem?_take] at hx
    split at hx
    · exact h.at_ j x hx
    · cases hx⟩
theorem RowAt.drop {w : World} {g o c k : Nat} {q : List RS} (h : RowAt w (some ⟨g, o, none⟩) c q) (hk : k ≤ q.length) : RowAt w (some ⟨g, o + k * 2, none⟩) (c - k) (q.drop k) := by
  have h1 := h.len
  have h2 := h.cap
  refine ⟨by simp; omega, by omega, (fun e => by cases e), (fun ad e => by injection e with e; exact ⟨g, _, e.symm⟩), fun j x hx => ?_⟩
  rw [List.getElem?_drop] at hx
  obtain ⟨g', o', hA, hg, d1, d2⟩ := h.at_ _ x hx
  injection hA with hA; injection hA with e1 e2
  subst e1; subst e2
  exact ⟨g, o + k * 2, rfl, hg, by rw [show o + k * 2 + j * 2 = o + (k + j) * 2 by rw [Nat.add_mul]; omega]; exact d1, by rw [show o + k * 2 + j * 2 = o + (k + j) * 2 by rw [Nat.add_mul]; omega]; exact d2⟩
theorem RowAt.low {w : World} {A : Option Addr} {c : Nat} {q : List RS} (h : RowAt w A c q) {j : Nat} (hj : j < q.length) : ∃ g o, A = some ⟨g, o, none⟩ := by
  obtain ⟨g, o, h1, _⟩ := h.at_ j _ (List.getElem?_eq_getElem hj)
  exact ⟨g, o, h1⟩

/-- A row of the call's own. -/
abbrev OwnR (w : World) (B : Nat) (A : Option Addr) (c : Nat) (q : List RS) : Prop := w.ownsRow B 90 2 (.slice A q.length c) q.length (rcells q)
theorem OwnR.at {w : World} {B c : Nat} {A : Option Addr} {q : List RS} (h : OwnR w B A c q) : RowAt w A c q ∧ ∀ g, A.map (·.block) = some g → B ≤ g ∧ g < w.heap.size := by
  rcases h.2 with ⟨hn, h0⟩ | ⟨g, cap, cur, hv, hB, hg, hnc, hcm, _⟩
  · injection hn with h1 h2 h3
    subst h1; subst h3
    obtain rfl : q = [] := List.length_eq_zero_iff.1 h0
    exact ⟨⟨Nat.le_refl _, Nat.zero_le _, fun _ => rfl, (fun ad e => by cases e), fun j x hx => by simp at hx⟩, fun g hg => by cases hg⟩
  · injection hv with h1 h2 h3
    subst h1; subst h3
    refine ⟨⟨hnc, hcm, (fun e => by cases e), (fun ad e => by injection e with e; exact ⟨g, 0, e.symm⟩), fun j x hx => ?_⟩, fun g' hg' => ?_⟩
    · obtain ⟨k1, k2⟩ := rcells_get q j x hx
      have c1 := h.cells (g := g) rfl _ _ k1
      have c2 := h.cells (g := g) rfl _ _ k2
      rw [add0] at c1 c2
      exact ⟨g, 0, rfl, lt_of_heap hg, by rw [Nat.zero_add]; exact c1, by rw [Nat.zero_add]; exact c2⟩
    · simp at hg'; subst hg'
      exact ⟨hB, lt_of_heap hg⟩
theorem ownR_value {w : World} {B n : Nat} {v : Value} {L : List Value} (h : w.ownsRow B 90 2 v n L) : ∃ A c, v = .slice A n c := by
  rcases h.2 with ⟨hv, h0⟩ | ⟨g, cap, cur, hv, _⟩
  · exact ⟨none, 0, by rw [hv, h0]⟩
  · exact ⟨some ⟨g, 0, none⟩, cap, hv⟩
theorem row_addr {w : World} {ad : Addr} {c : Nat} {q : List RS} (h : RowAt w (some ad) c q) : ∀ (j : Nat) (u : Value), (rcells q)[j]? = some u → w.cell? (ad.add j) = some u := by
  intro j u hu
  have hj := (List.getElem?_eq_some_iff.1 hu).1
  rw [rcells_len] at hj
  obtain ⟨x, hx⟩ : ∃ x, q[j / 2]? = some x := ⟨_, List.getElem?_eq_getElem (by omega)⟩
  obtain ⟨g, o, hA, hg, d1, d2⟩ := h.at_ _ x hx
  obtain ⟨e1, e2⟩ := rcells_get q (j / 2) x hx
  injection hA with hA
  subst hA
  rw [add_plain]
  rcases Nat.mod_two_eq_zero_or_one j with hm | hm
  · have hjj : j / 2 * 2 = j := by omega
    rw [hjj] at e1 d1
    rw [e1] at hu
    injection hu with hu
    rw [← hu]; exact d1
  · have hjj : j / 2 * 2 + 1 = j := by omega
    have hoj : o + j / 2 * 2 + 1 = o + j := by omega
    rw [hjj] at e2
    rw [hoj] at d2
    rw [e2] at hu
    injection hu with hu
    rw [← hu]; exact d2

set_option maxRecDepth 100000 in
theorem wpList_append_row {w : World} {ops : Array Oper} {rest : List Oper} {o : Oper} {a : Act} {Q : Exit → Act → World → Prop} (hgd : o.guard = none) (s x : Operand)
    (ho : o.op = .call { callee := .builtin .append, args := #[s, x], argTypes := #[67, 67] })
    (base : Nat) (v : Value) (X : List RS) (hs : a.eval s = v) (hown : w.ownsRow base 90 2 v X.length (rcells X))
    (A : Option Addr) (c : Nat) (M : List RS) (hx : a.eval x = .slice A M.length c) (hM : RowAt w A c M) (hlen : X.length + M.length ≤ 100000) (hbase : base ≤ w.heap.size)
    (h : ∀ A' c' w', w'.ownsRow base 90 2 (.slice A' (X ++ M).length c') (X ++ M).length (rcells (X ++ M)) → w.grownBy w' v.ownBlock → wpList Try.prog ops Q rest (a.put o.dst (.slice A' (X ++ M).length c')) w') : wpList Try.prog ops Q (o :: rest) a w := by
  obtain ⟨i0, z0, hi0, hz0, hz1, hz2, hz3⟩ := info_open slblock_info
  have hcl : rcells (X ++ M) = rcells X ++ rcells M := rcells_add X M
  cases A with
  | none =>
    obtain rfl := hM.nc rfl
    have hM0 : M = [] := List.length_eq_zero_iff.1 (by have := hM.len; omega)
    subst hM0
    refine wpList_append_own_none hgd s x 67 ho base 90 i0 2 Try.underlying67 hi0 v X.length (rcells X) hs hown hx ?_
    obtain ⟨A', c', rfl⟩ := ownR_value hown
    have := h A' c' w (by rw [List.append_nil]; exact hown) (grown_refl _ _)
    rw [List.append_nil] at this
    exact this
  | some ad =>
    refine wpList_append_own w hgd s x 67 ho base 90 i0 z0 2 32 Try.underlying67 hi0 hz0 hz1 hz2 hz3 (by omega) v X.length (rcells X) hs hown ad M.length c (rcells M) hx (rcells_len M) (row_addr hM) (rcells_cell M) (by unfold maxLen; omega) (by omega) hbase ?_
    intro v' w' hown' hgrow _
    rw [← List.length_append, ← hcl] at hown'
    obtain ⟨A', c', rfl⟩ := ownR_value hown'
    exact h A' c' w' hown' hgrow

/-- The reference's cache: block r has it; the state of its allocator lies at Bp. -/
structure RefAt (w : World) (own : Own?) (r : Nat) (Bp : Addr) (s o kp : Nat) (q : List RS) : Prop where
  ownR : own r = some 0
  cell : ∃ A cap, w.heap[r]? = some (.cells #[.pointer (some Bp), .int .i64 (s : Int), .int .i64 (o : Int), .int .i64 (kp : Int), .slice A q.length cap] 133 (0, 0)) ∧ RowAt w A cap q ∧ (∀ g, A.map (·.block) = some g → own g = some 2 ∧ g < w.heap.size)
  used : ∀ (j : Nat) (x : RS), q[j]? = some x → own x.2.1 = some (x.1.pg + 10) ∧ w.ownsRow 0 4 1 (.slice (some ⟨x.2.1, 0, none⟩) x.1.us.length x.2.2) x.1.us.length (bcells x.1.us)

theorem RefAt.same {w w' : World} {own own' : Own?} {r : Nat} {Bp : Addr} {s o kp : Nat} {q : List RS} (h : RefAt w own r Bp s o kp q) (hs : w.heap.size ≤ w'.heap.size)
    (hk : ∀ k, own k ≠ none → k < w.heap.size → w'.heap[k]? = w.heap[k]? ∧ own' k = own k) : RefAt w' own' r Bp s o kp q := by
  obtain ⟨A, cap, h1, h2, h3⟩ := h.cell
  have hr := hk r (by rw [h.ownR]; simp) (lt_of_heap h1)
  refine ⟨hr.2.trans h.ownR, ⟨A, cap, hr.1.trans h1, h2.keep hs fun g hg hl => (hk g (by rw [(h3 g hg).1]; simp) hl).1, fun g hg => ?_⟩, fun j x hx => ?_⟩
  · obtain ⟨k1, k2⟩ := h3 g hg
    exact ⟨(hk g (by rw [k1]; simp) k2).2.trans k1, by omega⟩
  · obtain ⟨k1, k2⟩ := h.used j x hx
    have hu := hk x.2.1 (by rw [k1]; simp) (k2.lt _ rfl).2
    exact ⟨hu.2.trans k1, row_same k2 fun g hg => by
      have hg : x.2.1 = g := by injection hg
      rw [← hg]; exact hu.1⟩
end Sl
end Go.Proofs.Ytlknhbcambdccaa
namespace Go.Proofs.Ytlknhbcambdccaa
open Go.RowKit
namespace Sl
open Bu

set_option maxRecDepth 100000 in
set_option maxHeartbeats 2000000 in
theorem usedR_ok (w : World) (pg : Int) (A : Option Addr) (c : Nat) (us : List Bool) (h : BoolAt 0 w A c us) :
    Calls Try.prog 80 #[.agg #[.int .i64 pg, .slice A us.length c]] w fun e w' => e = .returned (.int .i64 ((us.count true : Nat) : Int)) ∧ Below w.heap.size w w' := by
  obtain ⟨n, hn⟩ : ∃ n, n = us.length := ⟨_, rfl⟩
  obtain ⟨W1, hW1⟩ : ∃ W1, W1 = w.alloc (.cells #[.int .i64 pg, .slice A n c] 90) := ⟨_, rfl⟩
  have hb1 : Below w.heap.size w W1 := by rw [hW1]; exact below_box w _
  have hx1 : W1.heap[w.heap.size]? = some (.cells #[.int .i64 pg, .slice A n c] 90 (0, 0)) := by rw [hW1, heapAlloc, if_pos rfl]
  obtain ⟨_, x1, -, -⟩ := Bu.two_cells hx1
  have h1 : BoolAt 0 W1 A c us := h.keep hb1.size fun z _ hz => hb1.block z hz
  have hln := h.1
  have hlm := h.2.1
  unfold maxLen at hlm
  have HX := Lib.hid (And.intro h1 (And.intro hn hb1))
  have HW := Lib.hid hW1
  rw [← hn] at hln ⊢
  clear h h1 hn hb1 hx1 hW1
  go_enter Try.func80, Try.ntmps80
  go_wp2_with (fail)
  rw [← HW.out]
  go_loop [3, 4] (fun m i => ∃ k : Nat, k ≤ n ∧ i = .int .i64 (k : Int) ∧ m = .int .i64 (((us.take k).count true : Nat) : Int)) (fun _ i => n - (intOf i).toNat)
  case atStart => exact ⟨0, Nat.zero_le _, rfl, rfl⟩
  case round =>
    obtain ⟨k, hk, rfl, rfl⟩ := hrel
    have e0 : (0 : Int) ≤ (k : Int) := by omega
    by_cases hlt : k < n
    · have e1 : (k : Int) < (n : Int) := by omega
      have hkk : IntKind.i64.wrap ((k : Int) + 1) = ((k + 1 : Nat) : Int) := by rw [IntWalk.i64_in _ (by omega)]; rfl
      have hku : k < us.length := by rw [← HX.out.2.1]; exact hlt
      obtain ⟨v, hv⟩ : ∃ v, us[k]? = some v := ⟨_, List.getElem?_eq_getElem hku⟩
      obtain ⟨g, o, rfl, _, hg, d⟩ := HX.out.1.2.2 k v hv
      have hcnt : (us.take (k + 1)).count true = (us.take k).count true + (if v then 1 else 0) := by
        rw [List.take_succ_eq_append_getElem hku, List.count_append]
        rw [List.getElem?_eq_getElem hku] at hv; injection hv with hv
        rw [hv]; cases v <;> rfl
      have hct : (us.take k).count true ≤ k := Nat.le_trans List.count_le_length (by rw [List.length_take]; exact Nat.min_le_left _ _)
      have hcw : IntKind.i64.wrap ((((us.take k).count true : Nat) : Int) + 1) = (((us.take k).count true + 1 : Nat) : Int) := by rw [IntWalk.i64_in _ (by omega)]; rfl
      have HC := Lib.hid hcnt
      clear hcnt hv
      cases v with
      | false =>
        go_wp2
        go_round
        case rel => exact ⟨k + 1, by omega, by go_num, by rw [HC.out]; rfl⟩
        case measure => simp [intOf]; omega
      | true =>
        go_wp2
        go_round
        case rel => exact ⟨k + 1, by omega, by go_num, by rw [HC.out]; rfl⟩
        case measure => simp [intOf]; omega
    · obtain rfl : k = n := by omega
      have e1 : ¬ ((k : Nat) : Int) < (k : Int) := by omega
      have hfin : us.take k = us := by rw [HX.out.2.1, List.take_length]
      have HF := Lib.hid hfin
      clear hfin
      go_wp2
      go_ret
      exact ⟨congrArg (fun x => Ending.returned (.int .i64 x)) (by rw [HF.out]), HX.out.2.2⟩

theorem sb_at {w : World} {A : Option Addr} {c : Nat} {l : List (Int × List Bool)} (h : SbAt 0 w A c l) {k : Nat} {x : Int × List Bool} (hx : l[k]? = some x) :
    ∃ g o U cu, A = some ⟨g, o, none⟩ ∧ g < w.heap.size ∧ w.cell? ⟨g, o + k * 2, none⟩ = some (.int .i64 x.1) ∧ w.cell? ⟨g, o + k * 2 + 1, none⟩ = some (.slice U x.2.length cu) ∧ BoolAt 0 w U cu x.2 := by
  obtain ⟨g, o, U, cu, h1, _, h2, h3, h4, h5⟩ := h.2.2 k x hx
  exact ⟨g, o, U, cu, h1, h2, h3, h4, h5⟩
theorem empty_le (l : List (Int × List Bool)) : emptyS (loadS l) ≤ l.length := by
  have h1 : emptyS (loadS l) ≤ (loadS l).length := List.length_filter_le _ _
  unfold loadS at h1 ⊢
  rw [List.length_map] at h1; exact h1

set_option maxRecDepth 100000 in
set_option maxHeartbeats 2000000 in
theorem emptyR_ok (w : World) (s o kp : Int) (A : Option Addr) (c : Nat) (l : List (Int × List Bool)) (h : SbAt 0 w A c l) :
    Calls Try.prog 83 #[stv s o kp A l.length c] w fun e w' => e = .returned (.int .i64 ((emptyS (loadS l) : Nat) : Int)) ∧ Below w.heap.size w w' := by
  obtain ⟨n, hn⟩ : ∃ n, n = l.length := ⟨_, rfl⟩
  obtain ⟨W1, hW1⟩ : ∃ W1, W1 = w.alloc (.cells #[.int .i64 s, .int .i64 o, .int .i64 kp, .slice A n c] 69) := ⟨_, rfl⟩
  have hb1 : Below w.heap.size w W1 := by rw [hW1]; exact below_box w _
  have hx1 : W1.heap[w.heap.size]? = some (.cells #[.int .i64 s, .int .i64 o, .int .i64 kp, .slice A n c] 69 (0, 0)) := by rw [hW1, heapAlloc, if_pos rfl]
  obtain ⟨_, _, _, x3⟩ := four_at hx1
  have hln := h.1
  have hlm := h.2.1
  unfold maxLen at hlm
  have hszl : w.heap.size < W1.heap.size := by rw [hW1]; simp
  have HX := Lib.hid (And.intro (h.below hb1) (And.intro hn hb1))
  have HW := Lib.hid hW1
  rw [← hn] at hln ⊢
  clear h hn hb1 hx1 hW1
  go_enter Try.func83, Try.ntmps83
  go_wp2_with (fail)
  rw [← HW.out]
  go_loopw [3, 4] (fun m i wr => ∃ k : Nat, k ≤ n ∧ i = .int .i64 (k : Int) ∧ m = .int .i64 ((emptyS (loadS (l.take k)) : Nat) : Int) ∧ Below W1.heap.size W1 wr) (fun _ i _ => n - (intOf i).toNat)
  case atStart => exact ⟨0, Nat.zero_le _, rfl, rfl, Below.refl _ _⟩
  case round =>
    obtain ⟨k, hk, rfl, rfl, hb⟩ := hrel
    have e0 : (0 : Int) ≤ (k : Int) := by omega
    replace x3 := (hb.cell (p := ⟨w.heap.size, 3, none⟩) hszl).trans x3
    by_cases hlt : k < n
    · have e1 : (k : Int) < (n : Int) := by omega
      have hkk : IntKind.i64.wrap ((k : Int) + 1) = ((k + 1 : Nat) : Int) := by rw [IntWalk.i64_in _ (by omega)]; rfl
      have hku : k < l.length := by rw [← HX.out.2.1]; exact hlt
      obtain ⟨⟨pg, us⟩, hx⟩ : ∃ x, l[k]? = some x := ⟨_, List.getElem?_eq_getElem hku⟩
      obtain ⟨g, oo, U, cu, rfl, hg, d0, d1, hU⟩ := sb_at HX.out.1 hx
      replace d0 := (hb.cell (p := ⟨g, oo + k * 2, none⟩) hg).trans d0
      replace d1 := (hb.cell (p := ⟨g, oo + k * 2 + 1, none⟩) hg).trans d1
      dsimp only at d0 d1 hU
      have hus := usedR_ok wr pg U cu us (hU.keep hb.size fun z _ hz => hb.block z hz)
      obtain ⟨q, hq⟩ : ∃ q, q = us.length := ⟨_, rfl⟩
      obtain ⟨m, hm⟩ : ∃ m, m = us.count true := ⟨_, rfl⟩
      rw [← hq] at d1
      rw [← hq, ← hm] at hus
      have HU := Lib.hid hus
      have hcnt : emptyS (loadS (l.take (k + 1))) = emptyS (loadS (l.take k)) + if m = 0 then 1 else 0 := by rw [load_snoc hx, empty_snoc, hm]; rfl
      have hct : emptyS (loadS (l.take k)) ≤ k := Nat.le_trans (empty_le _) (by rw [List.length_take]; exact Nat.min_le_left _ _)
      obtain ⟨E, hE⟩ : ∃ E, E = emptyS (loadS (l.take k)) := ⟨_, rfl⟩
      rw [← hE] at hcnt hct ⊢
      have hcw : IntKind.i64.wrap ((E : Int) + 1) = ((E + 1 : Nat) : Int) := by rw [IntWalk.i64_in _ (by omega)]; rfl
      have HC := Lib.hid (And.intro hcnt hb)
      clear hcnt hus hq hm hE hb hU hx
      go_wp2_with (go_at_call 80; fail)
      refine HU.out.mono ?_
      rintro _ w2 ⟨rfl, hb2⟩
      have H2 := Lib.hid hb2
      clear hb2
      by_cases hm0 : m = 0
      · have hmb : (((m : Nat) : Int) == 0) = true := by simp [hm0]
        have HM := Lib.hid hm0
        clear hm0
        go_wp2
        go_roundw
        case rel => exact ⟨k + 1, by omega, by go_num, by rw [HC.out.1, if_pos HM.out]; rfl, below_step HC.out.2 H2.out (Nat.le_refl _)⟩
        case measure => simp [intOf]; omega
      · have hmb : (((m : Nat) : Int) == 0) = false := by simp [hm0]
        have HM := Lib.hid hm0
        clear hm0
        go_wp2
        go_roundw
        case rel => exact ⟨k + 1, by omega, by go_num, by rw [HC.out.1, if_neg HM.out]; rfl, below_step HC.out.2 H2.out (Nat.le_refl _)⟩
        case measure => simp [intOf]; omega
    · obtain rfl : k = n := by omega
      have e1 : ¬ ((k : Nat) : Int) < (k : Int) := by omega
      have H2 := Lib.hid (And.intro hb (show l.take k = l by rw [HX.out.2.1, List.take_length]))
      clear hb
      go_wp2
      go_ret
      exact ⟨congrArg (fun x => Ending.returned (.int .i64 x)) (by rw [H2.out.2]), below_step HX.out.2.2 H2.out.1 (Nat.le_refl _)⟩

set_option maxRecDepth 100000 in
set_option maxHeartbeats 1000000 in
theorem capacityR_ok (w : World) (s o : Nat) (h8 : 8 ≤ s) (h4 : o ≤ 4) : Calls Try.prog 64 #[.int .i64 (s : Int), .int .i64 (o : Int)] w fun e w' => e = .returned (.int .i64 ((capa s o : Nat) : Int)) ∧ w = w' := by
  have hp : 2 ^ o ≤ 2 ^ 4 := Nat.pow_le_pow_right (by decide) h4
  have HS := Lib.hid (size_ok o w (by omega))
  obtain ⟨M, hM⟩ : ∃ M : Nat, M = 2 ^ o := ⟨_, rfl⟩
  rw [← hM] at HS hp
  have hq : capa s o = 64 * M / s := by unfold capa; rw [hM]
  have hm : IntKind.i64.wrap (64 * (M : Int)) = ((64 * M : Nat) : Int) := by rw [IntWalk.i64_in _ (by omega)]; push_cast; rfl
  have h0 : (s : Int) ≠ 0 := by omega
  have e1 : (0 : Int) ≤ ((64 * M : Nat) : Int) := by omega
  have e2 : (0 : Int) < (s : Int) := by omega
  have HQ := Lib.hid hq
  clear hM hq
  go_enter Try.func64, Try.ntmps64
  go_wp2_with (go_at_call 87; refine HS.out.mono ?_; rintro e w' ⟨rfl, rfl⟩)
  go_ret
  refine ⟨?_, rfl⟩
  rw [HQ.out]
  exact congrArg (fun x => Ending.returned (.int .i64 x)) (by push_cast; rfl)

set_option maxRecDepth 100000 in
set_option maxHeartbeats 4000000 in
theorem sizesR_ok (w : World) (size order keep : Int) :
    Calls Try.prog 67 #[.int .i64 size, .int .i64 order, .int .i64 keep] w fun e w' => e = .returned (.bool (sizesB size order keep)) ∧ w = w' := by
  obtain ⟨r, hr⟩ : ∃ r, r = sizesB size order keep := ⟨_, rfl⟩
  rw [← hr]
  have HR := Lib.hid hr
  clear hr
  by_cases h8 : 8 ≤ size
  · have d_h8 : decide (size < 8) = false := decide_eq_false (by omega)
    by_cases h1024 : size ≤ 1024
    · have d_h1024 : decide (1024 < size) = false := decide_eq_false (by omega)
      by_cases hm : size % 8 = 0
      · have tm : ((size % 8 : Int) != 0) = false := by simp [hm]
        by_cases ho : 0 ≤ order
        · have d_ho : decide (order < 0) = false := decide_eq_false (by omega)
          by_cases ho4 : order ≤ 4
          · have d_ho4 : decide (4 < order) = false := decide_eq_false (by omega)
            by_cases hk : 0 ≤ keep
            · have d_hk : decide (keep < 0) = false := decide_eq_false (by omega)
              by_cases hk64 : keep ≤ 64
              · have d_hk64 : decide (64 < keep) = false := decide_eq_false (by omega)
                obtain ⟨o, rfl⟩ := Int.eq_ofNat_of_zero_le ho
                obtain ⟨s, rfl⟩ := Int.eq_ofNat_of_zero_le (show 0 ≤ size by omega)
                have hcap := capacityR_ok w s o (by omega) (by omega)
                have hiff : 1 ≤ capa s o ↔ s ≤ 64 * 2 ^ o := by unfold capa; exact Nat.one_le_div_iff (by omega)
                obtain ⟨K, hK⟩ : ∃ K, K = capa s o := ⟨_, rfl⟩
                rw [← hK] at hcap hiff
                have HC := Lib.hid hcap
                have HM := Lib.hid (And.intro hiff hm)
                clear hcap hiff hm hK
                by_cases h1 : 1 ≤ K
                · have h1b : decide ((1 : Int) ≤ (K : Int)) = true := decide_eq_true (by omega)
                  go_enter Try.func67, Try.ntmps67
                  go_wp2_with (go_at_call 64; refine HC.out.mono ?_; rintro e w' ⟨rfl, rfl⟩)
                  go_ret
                  refine ⟨?_, rfl⟩
                  rw [HR.out]
                  unfold sizesB
                  rw [Int.toNat_natCast, decide_eq_true ⟨h8, h1024, HM.out.2, ho, ho4, hk, hk64, by have := HM.out.1.1 h1; omega⟩]
                  rfl
                · have h1b : decide ((1 : Int) ≤ (K : Int)) = false := decide_eq_false (by omega)
                  go_enter Try.func67, Try.ntmps67
                  go_wp2_with (go_at_call 64; refine HC.out.mono ?_; rintro e w' ⟨rfl, rfl⟩)
                  go_ret
                  refine ⟨?_, rfl⟩
                  rw [HR.out]
                  unfold sizesB
                  rw [Int.toNat_natCast, decide_eq_false (fun h => h1 (HM.out.1.2 (by have := h.2.2.2.2.2.2.2; omega)))]
                  rfl
              · have d_hk64 : decide (64 < keep) = true := decide_eq_true (by omega)
                have HM := Lib.hid hm
                clear hm
                go_enter Try.func67, Try.ntmps67
                go_wp2
                go_ret
                refine ⟨?_, rfl⟩
                rw [HR.out]
                unfold sizesB
                rw [decide_eq_false (fun h => by have := h.2.2.2.2.2.2.1; omega)]
                rfl
            · have d_hk : decide (keep < 0) = true := decide_eq_true (by omega)
              have HM := Lib.hid hm
              clear hm
              go_enter Try.func67, Try.ntmps67
              go_wp2
              go_ret
              refine ⟨?_, rfl⟩
              rw [HR.out]
              unfold sizesB
              rw [decide_eq_false (fun h => by have := h.2.2.2.2.2.1; omega)]
              rfl
          · have d_ho4 : decide (4 < order) = true := decide_eq_true (by omega)
            have HM := Lib.hid hm
            clear hm
            go_enter Try.func67, Try.ntmps67
            go_wp2
            go_ret
            refine ⟨?_, rfl⟩
            rw [HR.out]
            unfold sizesB
            rw [decide_eq_false (fun h => by have := h.2.2.2.2.1; omega)]
            rfl
        · have d_ho : decide (order < 0) = true := decide_eq_true (by omega)
          have HM := Lib.hid hm
          clear hm
          go_enter Try.func67, Try.ntmps67
          go_wp2
          go_ret
          refine ⟨?_, rfl⟩
          rw [HR.out]
          unfold sizesB
          rw [decide_eq_false (fun h => by have := h.2.2.2.1; omega)]
          rfl
      · have tm : ((size % 8 : Int) != 0) = true := by simp [hm]
        have HM := Lib.hid hm
        clear hm
        go_enter Try.func67, Try.ntmps67
        go_wp2
        go_ret
        refine ⟨?_, rfl⟩
        rw [HR.out]
        unfold sizesB
        rw [decide_eq_false (fun h => by exact HM.out h.2.2.1)]
        rfl
    · have d_h1024 : decide (1024 < size) = true := decide_eq_true (by omega)
      go_enter Try.func67, Try.ntmps67
      go_wp2
      go_ret
      refine ⟨?_, rfl⟩
      rw [HR.out]
      unfold sizesB
      rw [decide_eq_false (fun h => by have := h.2.1; omega)]
      rfl
  · have d_h8 : decide (size < 8) = true := decide_eq_true (by omega)
    go_enter Try.func67, Try.ntmps67
    go_wp2
    go_ret
    refine ⟨?_, rfl⟩
    rw [HR.out]
    unfold sizesB
    rw [decide_eq_false (fun h => by have := h.1; omega)]
    rfl
end Sl
end Go.Proofs.Ytlknhbcambdccaa
namespace Go.Proofs.Ytlknhbcambdccaa
open Go.RowKit
namespace Sl
open Bu

theorem row_sameB {w w' : World} {B e s n : Nat} {v : Value} {xs : List Value} (h : w.ownsRow B e s v n xs) (hk : ∀ g, v.ownBlock = some g → w'.heap[g]? = w.heap[g]?) : w'.ownsRow B e s v n xs := by
  refine ⟨h.1, ?_⟩
  rcases h.2 with hn | ⟨g, cap, cur, rfl, hB, hgg, rest⟩
  · exact .inl hn
  · exact .inr ⟨g, cap, cur, rfl, hB, by rw [hk g rfl]; exact hgg, rest⟩
theorem bcells_add (a b : List Bool) : bcells (a ++ b) = bcells a ++ bcells b := by simp [bcells]
theorem bool_addr {w : World} {ad : Addr} {c : Nat} {us : List Bool} (h : BoolAt 0 w (some ad) c us) : ∀ j u, (bcells us)[j]? = some u → w.cell? (ad.add j) = some u := by
  intro j u hu
  rw [bcells_get] at hu
  obtain ⟨v, hv, rfl⟩ := Option.map_eq_some_iff.1 hu
  obtain ⟨g, o, h1, _, _, h3⟩ := h.2.2 j v hv
  injection h1 with h1
  rw [h1, add_plain]
  exact h3

set_option maxRecDepth 100000 in
theorem run_append_bool (w : World) (ty : TypeId) (base : Nat) (v : Value) (X : List Bool) (hown : w.ownsRow base 4 1 v X.length (bcells X))
    (A : Option Addr) (c : Nat) (M : List Bool) (hM : BoolAt 0 w A c M) (hp : 0 < M.length) (hlen : X.length + M.length ≤ 1000000) (hbase : base ≤ w.heap.size) :
    ∃ A' c' w', (Builtin.append_ #[88, 88] ty #[v, .slice A M.length c]).run Try.prog w = .ok (.slice A' (X ++ M).length c') w' ∧ w'.ownsRow base 4 1 (.slice A' (X ++ M).length c') (X ++ M).length (bcells (X ++ M)) ∧ w.grownBy w' v.ownBlock := by
  obtain ⟨i0, hi0, hz0, hz1, hz2⟩ := info_parts bool_info
  obtain ⟨v0, hv0⟩ : ∃ v0, M[0]? = some v0 := ⟨_, List.getElem?_eq_getElem hp⟩
  obtain ⟨g, o, rfl, _⟩ := hM.2.2 0 v0 hv0
  obtain ⟨v', w', hr, h2, h3, _⟩ := run_append_own (P := Try.prog) w base 88 ty 4 i0 (.bool false) 1 1 Try.underlying88 hi0 hz0 hz1 hz2 rfl (by omega) v X.length (bcells X) hown ⟨g, o, none⟩ M.length c (bcells M) (by rw [bcells_len]; omega) (bool_addr hM) (fun u hu => by
    unfold bcells at hu
    obtain ⟨x, _, rfl⟩ := List.mem_map.1 hu
    rfl) (by unfold maxLen; omega) (by omega) hbase
  rw [← List.length_append, ← bcells_add] at h2
  obtain ⟨A', c', rfl⟩ := own_row h2
  exact ⟨A', c', w', hr, h2, h3⟩

theorem step_append_bool {w : World} {ops : Array Oper} {o : Oper} {a : Act} {K : Act → World → Prop} {Q : Exit → Act → World → Prop} {E : Prop} (hgd : o.guard = none) (s x : Operand)
    (ho : o.op = .call { callee := .builtin .append, args := #[s, x], argTypes := #[88, 88] })
    (base : Nat) (v : Value) (X : List Bool) (hs : a.eval s = v) (hown : w.ownsRow base 4 1 v X.length (bcells X))
    (A : Option Addr) (c : Nat) (M : List Bool) (hx : a.eval x = .slice A M.length c) (hM : BoolAt 0 w A c M) (hp : 0 < M.length) (hlen : X.length + M.length ≤ 1000000) (hbase : base ≤ w.heap.size)
    (h : ∀ A' c' w', w'.ownsRow base 4 1 (.slice A' (X ++ M).length c') (X ++ M).length (bcells (X ++ M)) → w.grownBy w' v.ownBlock → K (a.put o.dst (.slice A' (X ++ M).length c')) w') :
    if Region.wanted o (yielded ops a.tmps) = true then Oper.wp Try.prog o a w K Q else E := by
  have hw : Region.wanted o (yielded ops a.tmps) = true := by simp [Region.wanted, hgd]
  rw [if_pos hw]
  obtain ⟨A', c', w', hrun, h1, h2⟩ := run_append_bool w o.type base v X hown A c M hM hp hlen hbase
  unfold Oper.wp
  simp only [execOp, ho, resolve, invoke, builtin, Sem.run_bind, Sem.run_pure, Result.andThen_ok, List.map_toArray, List.map_cons, List.map_nil, hs, hx, hrun]
  exact h A' c' w' h1 h2

/-- Bools that are appended to an empty slice of the call's own. -/
theorem step_append_bool0 {w : World} {ops : Array Oper} {o : Oper} {a : Act} {K : Act → World → Prop} {Q : Exit → Act → World → Prop} {E : Prop} (hgd : o.guard = none) (s x : Operand)
    (ho : o.op = .call { callee := .builtin .append, args := #[s, x], argTypes := #[88, 88] })
    (base : Nat) (v : Value) (hs : a.eval s = v) (hown : w.ownsRow base 4 1 v 0 [])
    (A : Option Addr) (c q : Nat) (M : List Bool) (hq : q = M.length) (hx : a.eval x = .slice A q c) (hM : BoolAt 0 w A c M) (hp : 0 < q) (hlen : q ≤ 1000000) (hbase : base ≤ w.heap.size)
    (h : ∀ U c' w', w'.ownsRow base 4 1 (.slice (some ⟨U, 0, none⟩) q c') q (bcells M) → w.grownBy w' v.ownBlock → K (a.put o.dst (.slice (some ⟨U, 0, none⟩) q c')) w') :
    if Region.wanted o (yielded ops a.tmps) = true then Oper.wp Try.prog o a w K Q else E := by
  subst hq
  refine step_append_bool hgd s x ho base v [] hs hown A c M hx hM hp (by simpa using hlen) hbase ?_
  intro A' c' w' h1 h2
  rw [List.nil_append] at h1 ⊢
  obtain ⟨U, rfl⟩ := row_some h1 hp
  exact h U c' w' h1 h2
theorem bool_empty (w : World) (B : Nat) (hB : B ≤ w.heap.size) : (w.alloc (.cells #[] 4)).ownsRow B 4 1 (.slice (some ⟨w.heap.size, 0, none⟩) 0 0) 0 [] :=
  ⟨rfl, .inr ⟨w.heap.size, 0, #[], rfl, hB, by rw [heapAlloc, if_pos rfl], Nat.le_refl _, Nat.zero_le _, rfl, rfl⟩⟩

/-- What copied has made after k slabs. -/
def CopI (w : World) (S : Nat) (s o kp : Int) (sl : List Slb) (k : Nat) (W : World) : Prop :=
  ∃ A cp q, q.length = k ∧ q.map (·.1) = sl.take k ∧ (∀ (j : Nat) (x : RS), q[j]? = some x → W.ownsRow (S + 1) 4 1 (.slice (some ⟨x.2.1, 0, none⟩) x.1.us.length x.2.2) x.1.us.length (bcells x.1.us) ∧ A.map (·.block) ≠ some x.2.1) ∧
    q.Pairwise (fun a b => a.2.1 < b.2.1) ∧ OwnR W (S + 1) A cp q ∧
    W.heap[S]? = some (.cells #[.int .i64 s, .int .i64 o, .int .i64 kp, .slice A k cp] 69 (0, 0)) ∧
    W.heap[w.heap.size]? = some (.cells #[.int .i64 0, .int .i64 0, .int .i64 0, .slice none 0 0] 69 (0, 0)) ∧ Below w.heap.size w W

theorem copy_step {w wr w5 W : World} {S k cp g6 cap6 c5 U : Nat} {s o kp : Int} {sl : List Slb} {A : Option Addr} {q : List RS} {x : Slb} (hS : S = w.heap.size + 1) (hkq : q.length = k) (hq : q.map (·.1) = sl.take k)
    (hu : ∀ (j : Nat) (x : RS), q[j]? = some x → wr.ownsRow (S + 1) 4 1 (.slice (some ⟨x.2.1, 0, none⟩) x.1.us.length x.2.2) x.1.us.length (bcells x.1.us) ∧ A.map (·.block) ≠ some x.2.1) (hp : q.Pairwise (fun a b => a.2.1 < b.2.1))
    (hr : wr.ownsRow (S + 1) 90 2 (.slice A k cp) k (rcells q)) (hSc : wr.heap[S]? = some (.cells #[.int .i64 s, .int .i64 o, .int .i64 kp, .slice A k cp] 69 (0, 0)))
    (hRc : wr.heap[w.heap.size]? = some (.cells #[.int .i64 0, .int .i64 0, .int .i64 0, .slice none 0 0] 69 (0, 0))) (hb : Below w.heap.size w wr) (hx : sl[k]? = some x)
    (h5 : w5.ownsRow wr.heap.size 4 1 (.slice (some ⟨U, 0, none⟩) x.us.length c5) x.us.length (bcells x.us)) (hb5 : Below wr.heap.size wr w5)
    (h6 : W.ownsRow (S + 1) 90 2 (.slice (some ⟨g6, 0, none⟩) (k + 1) cap6) (k + 1) (rcells q ++ [.int .i64 (x.pg : Int), .slice (some ⟨U, 0, none⟩) x.us.length c5])) (hg : (w5.alloc (.cells #[.int .i64 (x.pg : Int), .slice (some ⟨U, 0, none⟩) x.us.length c5] 90)).grownBy W (Value.slice A k cp).ownBlock) (hat : (Value.slice A k cp).ownBlock = some g6 ∨ g6 = w5.heap.size + 1) :
    CopI w S s o kp sl (k + 1) (W.setCell ⟨S, 3, none⟩ (.slice (some ⟨g6, 0, none⟩) (k + 1) cap6)) := by
  have hSl := lt_of_heap hSc
  have h5s := hb5.size
  have hal : (w5.alloc (.cells #[.int .i64 (x.pg : Int), .slice (some ⟨U, 0, none⟩) x.us.length c5] 90)).heap.size = w5.heap.size + 1 := by simp
  have hgs := hg.size
  have hrow : ∀ z, (Value.slice A k cp).ownBlock = some z → S + 1 ≤ z ∧ z < wr.heap.size := fun z hz => hr.lt z hz
  have hold : ∀ z, z < wr.heap.size → some z ≠ (Value.slice A k cp).ownBlock → W.heap[z]? = wr.heap[z]? := fun z hz hn => (hg.block z (by omega) hn).trans ((alloc_old _ _ _ (by omega)).trans (hb5.block z hz))
  have hnew : ∀ z, wr.heap.size ≤ z → z < w5.heap.size → W.heap[z]? = w5.heap[z]? := fun z hz h => (hg.block z (by omega) (fun e => by have := (hrow z e.symm).2; omega)).trans (alloc_old _ _ _ h)
  have hnS : some S ≠ (Value.slice A k cp).ownBlock := fun e => by have := (hrow S e.symm).1; omega
  have hnR : some w.heap.size ≠ (Value.slice A k cp).ownBlock := fun e => by have := (hrow _ e.symm).1; omega
  have hwS : W.heap[S]? = _ := (hold S hSl hnS).trans hSc
  have hU := h5.lt U rfl
  have hkS : ∀ z, z ≠ S → (W.setCell ⟨S, 3, none⟩ (.slice (some ⟨g6, 0, none⟩) (k + 1) cap6)).heap[z]? = W.heap[z]? := fun z hz => setCell_far _ _ _ _ hz
  have hlen : (q ++ [(x, U, c5)]).length = k + 1 := by rw [List.length_append, List.length_singleton, hkq]
  refine ⟨some ⟨g6, 0, none⟩, cap6, q ++ [(x, U, c5)], hlen, ?_, fun j y hy => ?_, ?_, ?_, setCell_at W S 3 _ _ _ hwS, ?_, ?_⟩
  · rw [List.map_append, hq, take_snocX hx]; rfl
  · by_cases hj : j < q.length
    · rw [List.getElem?_append_left hj] at hy
      obtain ⟨h1, h2⟩ := hu j y hy
      have hl := h1.lt y.2.1 rfl
      refine ⟨row_sameB h1 fun g hg' => ?_, fun e => ?_⟩
      · have hg' : y.2.1 = g := by injection hg'
        rw [← hg', hkS _ (by omega)]
        exact hold _ hl.2 (fun e => h2 (by rw [← own_blk (n := k) (cap := cp)]; exact e.symm))
      · injection e with e
        have e : g6 = y.2.1 := e
        rcases hat with h7 | h7
        · exact h2 (by rw [← own_blk (n := k) (cap := cp), h7, e])
        · omega
    · rw [List.getElem?_append_right (by omega)] at hy
      have hy : [(x, U, c5)][j - q.length]? = some y := hy
      have hj0 : j - q.length = 0 := by have := (List.getElem?_eq_some_iff.1 hy).1; simpa using this
      rw [hj0] at hy
      injection hy with hy
      subst hy
      refine ⟨row_low (B := wr.heap.size) (row_keep h5 fun z h1 h2 => (hkS z (by omega)).trans (hnew z h1 h2)) (by omega), fun e => ?_⟩
      injection e with e
      have e : g6 = U := e
      rcases hat with h7 | h7
      · have := (hrow g6 h7).2; omega
      · omega
  · rw [List.pairwise_append]
    refine ⟨hp, List.pairwise_singleton _ _, fun a ha b hb' => ?_⟩
    obtain ⟨j, hj⟩ := List.mem_iff_getElem?.1 ha
    have hl := (hu j a hj).1.lt a.2.1 rfl
    have hb' : b = (x, U, c5) := by simpa using hb'
    rw [hb']
    show a.2.1 < U
    omega
  · show World.ownsRow _ _ _ _ _ _ _
    rw [hlen, rcells_add, rcells_one']
    exact row_keep h6 fun z h1 h2 => hkS z (by omega)
  · rw [hkS _ (by omega)]
    exact (hold _ (lt_of_heap hRc) hnR).trans hRc
  · refine ((((hb.trans (hb5.mono hb.size)).alloc (by have := hb.size; omega) _).grown hg (by have := hb.size; omega) fun z hz => by have := (hrow z hz).1; omega).setCell (p := ⟨S, 3, none⟩) (by show w.heap.size ≤ S; omega) _)
end Sl
end Go.Proofs.Ytlknhbcambdccaa
namespace Go.Proofs.Ytlknhbcambdccaa
open Go.RowKit
namespace Sl
open Bu

/-- A copy of a saved state. -/
def CopR (B : Nat) (s o kp : Int) (sl : List Slb) (e : Ending) (W : World) : Prop :=
  ∃ A cp q, e = .returned (stv s o kp A sl.length cp) ∧ q.map (·.1) = sl ∧ (∀ (j : Nat) (x : RS), q[j]? = some x → W.ownsRow B 4 1 (.slice (some ⟨x.2.1, 0, none⟩) x.1.us.length x.2.2) x.1.us.length (bcells x.1.us) ∧ A.map (·.block) ≠ some x.2.1) ∧
    q.Pairwise (fun a b => a.2.1 < b.2.1) ∧ OwnR W B A cp q

theorem save_get {sl : List Slb} {k : Nat} {x : Slb} (h : sl[k]? = some x) : (saveS sl)[k]? = some ((x.pg : Int), x.us) := by unfold saveS; rw [List.getElem?_map, h]; rfl

/-- The load of the slice that the statement stores into: under a name of its own, so that the region's walk does not try it first. -/
def opT20 : Op := .load 67 (.tmp 19)
attribute [local go_sem] opT20
theorem copy_below {w w5 : World} (h : ((w.alloc (.cells #[] 4)).drew).grownBy w5 (Value.slice (some ⟨w.heap.size, 0, none⟩) 0 0).ownBlock) : Below w.heap.size w w5 := by
  have hs : ((w.alloc (.cells #[] 4)).drew).heap.size = w.heap.size + 1 := by show (w.alloc _).heap.size = _; simp
  have h1 := h.size
  refine ⟨h.os, h.tape, h.output, by omega, fun z hz => ?_⟩
  refine (h.block z (by omega) ?_).trans (alloc_old _ _ _ hz)
  intro e
  have e : z = w.heap.size := Option.some.inj e
  omega

set_option maxRecDepth 100000 in
set_option maxHeartbeats 8000000 in
theorem copied_ok (w : World) (s o kp : Int) (A0 : Option Addr) (c0 : Nat) (sl : List Slb) (h : SbAt 0 w A0 c0 (saveS sl)) (hne : ∀ x ∈ sl, 1 ≤ x.us.length ∧ x.us.length ≤ 1000) (hlen : sl.length ≤ 2000) :
    Calls Try.prog 69 #[stv s o kp A0 sl.length c0] w fun e w' => CopR w.heap.size s o kp sl e w' ∧ Below w.heap.size w w' := by
  obtain ⟨n, hn⟩ : ∃ n, n = sl.length := ⟨_, rfl⟩
  obtain ⟨W1, hW1⟩ : ∃ W1, W1 = w.alloc (.cells #[.int .i64 s, .int .i64 o, .int .i64 kp, .slice A0 n c0] 69) := ⟨_, rfl⟩
  have hb1 : Below w.heap.size w W1 := by rw [hW1]; exact below_box w _
  have hs1 : W1.heap.size = w.heap.size + 1 := by rw [hW1]; simp
  have hx1 : W1.heap[w.heap.size]? = some (.cells #[.int .i64 s, .int .i64 o, .int .i64 kp, .slice A0 n c0] 69 (0, 0)) := by rw [hW1, heapAlloc, if_pos rfl]
  obtain ⟨x0, x1, x2, x3⟩ := four_at hx1
  have hln := h.1
  have hlm := h.2.1
  rw [saveS_len] at hln
  unfold maxLen at hlm
  have HX := Lib.hid (And.intro (h.below hb1) (And.intro hn (And.intro hb1 (And.intro hx1 (And.intro hs1 (And.intro hne hlen))))))
  have HW := Lib.hid hW1
  have hszl : w.heap.size < W1.heap.size := by omega
  rw [← hn] at hln hlen ⊢
  clear h hn hb1 hx1 hW1 hs1 hne
  go_enter Try.func69, Try.ntmps69
  go_wp2_with (fail)
  rw [← HW.out]
  go_wp2_with (fail)
  obtain ⟨S, hS⟩ : ∃ S, S = w.heap.size + 1 + 1 := ⟨_, rfl⟩
  obtain ⟨W2, hW2⟩ : ∃ W2, W2 = (W1.alloc (.cells #[.int .i64 0, .int .i64 0, .int .i64 0, .slice none 0 0] 69)).alloc (.cells #[.int .i64 s, .int .i64 o, .int .i64 kp, .slice none 0 0] 69) := ⟨_, rfl⟩
  have hSW : S = W1.heap.size + 1 := by rw [hS, HX.out.2.2.2.2.1]
  have hI : CopI W1 S s o kp sl 0 W2 := by
    refine ⟨none, 0, [], rfl, by simp, fun j x hx => by simp at hx, List.Pairwise.nil, World.ownsRow_nil _ _ _ _, ?_, ?_, ?_⟩
    · rw [hW2, hSW, heapAlloc, if_pos (by simp)]
    · rw [hW2, alloc_old _ _ _ (by simp), heapAlloc, if_pos rfl]
    · rw [hW2]; exact ((below_box W1 _).alloc (by simp) _)
  have HI := Lib.hid hI
  rw [← hW2, ← hS]
  have HS := Lib.hid (And.intro hS hSW)
  obtain ⟨i0, z0, hi0, hz0, hz1, hz2, hz3⟩ := info_open slblock_info
  clear hI hW2 hS hSW x0 x1 x2
  go_loopw [4] (fun i wr => ∃ k : Nat, k ≤ n ∧ i = .int .i64 (k : Int) ∧ CopI W1 S s o kp sl k wr) (fun i _ => n - (intOf i).toNat)
  case atStart => exact ⟨0, Nat.zero_le _, rfl, HI.out⟩
  case round =>
    clear HI
    obtain ⟨k, hk, rfl, hI⟩ := hrel
    obtain ⟨A, cp, q, hqk, hq, hu, hpw, hr, hSc, hRc, hb⟩ := hI
    have e0 : (0 : Int) ≤ (k : Int) := by omega
    replace x3 := (hb.cell (p := ⟨w.heap.size, 3, none⟩) hszl).trans x3
    obtain ⟨_, _, _, s3⟩ := four_at hSc
    have sf3 : wr.frozen? ⟨S, 3, none⟩ = false := by simp [World.frozen?, hSc]
    have hSl := lt_of_heap hSc
    by_cases hlt : k < n
    · have e1 : (k : Int) < (n : Int) := by omega
      have hkk : IntKind.i64.wrap ((k : Int) + 1) = ((k + 1 : Nat) : Int) := by rw [IntWalk.i64_in _ (by omega)]; rfl
      obtain ⟨x, hx⟩ : ∃ x, sl[k]? = some x := ⟨_, List.getElem?_eq_getElem (by have := HX.out.2.1; omega)⟩
      obtain ⟨g, oo, U0, cu, rfl, hg, d0, d1, hU⟩ := sb_at HX.out.1 (save_get hx)
      dsimp only at d0 d1 hU
      replace d0 := (hb.cell (p := ⟨g, oo + k * 2, none⟩) hg).trans d0
      replace d1 := (hb.cell (p := ⟨g, oo + k * 2 + 1, none⟩) hg).trans d1
      have hbs := hb.size
      have hUw : BoolAt 0 wr U0 cu x.us := hU.keep hbs fun z _ hz => hb.block z hz
      obtain ⟨p, hp⟩ : ∃ p, p = x.us.length := ⟨_, rfl⟩
      have hpx := HX.out.2.2.2.2.2.1 x (List.mem_of_getElem? hx)
      rw [← hp] at d1 hpx
      have hgr : g < wr.heap.size := by omega
      have hgr1 : g < wr.heap.size + 1 := by omega
      have hBr : w.heap.size < wr.heap.size := by omega
      have hBr1 : w.heap.size < wr.heap.size + 1 := by omega
      have hSl1 : S < wr.heap.size + 1 := by omega
      have hne : some S ≠ (Value.slice A k cp).ownBlock := fun e => by
        have hr' : wr.ownsRow (S + 1) 90 2 (.slice A k cp) k (rcells q) := hqk ▸ hr
        have := (hr'.lt S e.symm).1; omega
      have HNE := Lib.hid hne
      have hr0 : wr.ownsRow (S + 1) 90 2 (.slice A k cp) k (rcells q) := hqk ▸ hr
      have HNB := Lib.hid (show some w.heap.size ≠ (Value.slice A k cp).ownBlock from fun e => by have := (hr0.lt _ e.symm).1; have := HS.out.1; omega)
      have HNG := Lib.hid (show some g ≠ (Value.slice A k cp).ownBlock from fun e => by have := (hr0.lt _ e.symm).1; have := HS.out.2; omega)
      have HNS := Lib.hid (show w.heap.size ≠ S ∧ g ≠ S from ⟨by have := HS.out.1; omega, by have := HS.out.2; omega⟩)
      clear hr0
      have hr' : wr.ownsRow (S + 1) 90 2 (.slice A k cp) k (rcells q) := hqk ▸ hr
      have HJ := Lib.hid (And.intro hqk (And.intro hq (And.intro hu (And.intro hpw (And.intro hr' (And.intro hSc (And.intro hRc (And.intro hb (And.intro hx (And.intro hp hUw))))))))))
      clear hqk hq hu hpw hr hr' hSc hRc hb hx hp hUw hU hne
      go_wp2_with (fail)
      have a0 : (wr.alloc (.cells #[] 4)).cell? ⟨S, 3, none⟩ = some (.slice A k cp) := (World.cell?_alloc_lt wr _ _ hSl).trans s3
      have a1 : (wr.alloc (.cells #[] 4)).cell? ⟨w.heap.size, 3, none⟩ = some (.slice (some ⟨g, oo, none⟩) n c0) := (World.cell?_alloc_lt wr _ _ hBr).trans x3
      have a2 : (wr.alloc (.cells #[] 4)).cell? ⟨g, oo + k * 2, none⟩ = some (.int .i64 (x.pg : Int)) := (World.cell?_alloc_lt wr _ _ hgr).trans d0
      have a3 : (wr.alloc (.cells #[] 4)).cell? ⟨g, oo + k * 2 + 1, none⟩ = some (.slice U0 p cu) := (World.cell?_alloc_lt wr _ _ hgr).trans d1
      rw [show Op.load 67 (.tmp 19) = opT20 from rfl]
      go_region_held3 (fun w' => w'.cell? ⟨w.heap.size, 3, none⟩ = some (.slice (some ⟨g, oo, none⟩) n c0) ∧ w'.cell? ⟨g, oo + k * 2, none⟩ = some (.int .i64 (x.pg : Int)) ∧ w'.cell? ⟨g, oo + k * 2 + 1, none⟩ = some (.slice U0 p cu)) (first | exact ⟨x3, d0, d1⟩ | exact ⟨a1, a2, a3⟩ | exact ⟨b1, b2, b3⟩ | exact ⟨r1, r2, r3⟩ | exact ⟨v1, v2, v3⟩ | exact ⟨y1 _, y2 _, y3 _⟩) (first
        | (refine step_append_bool0 (by rfl) (.tmp 27) (.tmp 33) (by rfl) wr.heap.size (.slice (some ⟨wr.heap.size, 0, none⟩) 0 0) (by rfl) (bool_empty wr _ (Nat.le_refl _)) U0 cu p x.us HJ.out.2.2.2.2.2.2.2.2.2.1 (by rfl) (HJ.out.2.2.2.2.2.2.2.2.2.2.keep (by show wr.heap.size ≤ (wr.alloc _).heap.size; simp) (fun z _ hz => alloc_old _ _ _ hz)) (by omega) (by omega) (by show wr.heap.size ≤ (wr.alloc _).heap.size; simp) ?_
           intro U c5 w5 hown5 hgr5
           have hb5 : Below wr.heap.size wr w5 := copy_below hgr5
           have hS5 : S < w5.heap.size := Nat.lt_of_lt_of_le hSl hb5.size
           have hB5 : w.heap.size < w5.heap.size := Nat.lt_of_lt_of_le hBr hb5.size
           have hg5 : g < w5.heap.size := Nat.lt_of_lt_of_le hgr hb5.size
           have hlt5 : wr.heap.size ≤ w5.heap.size := hb5.size
           have b0 : w5.cell? ⟨S, 3, none⟩ = some (.slice A k cp) := (hb5.cell (p := ⟨S, 3, none⟩) hSl).trans s3
           have b1 : w5.cell? ⟨w.heap.size, 3, none⟩ = some (.slice (some ⟨g, oo, none⟩) n c0) := (hb5.cell (p := ⟨w.heap.size, 3, none⟩) hBr).trans x3
           have b2 : w5.cell? ⟨g, oo + k * 2, none⟩ = some (.int .i64 (x.pg : Int)) := (hb5.cell (p := ⟨g, oo + k * 2, none⟩) hgr).trans d0
           have b3 : w5.cell? ⟨g, oo + k * 2 + 1, none⟩ = some (.slice U0 p cu) := (hb5.cell (p := ⟨g, oo + k * 2 + 1, none⟩) hgr).trans d1
           have sf3' : w5.frozen? ⟨S, 3, none⟩ = false := (hb5.frozen (p := ⟨S, 3, none⟩) hSl).trans sf3
           have r0 : (w5.alloc (.cells #[.int .i64 (x.pg : Int), .slice (some ⟨U, 0, none⟩) p c5] 90)).cell? ⟨S, 3, none⟩ = some (.slice A k cp) := (World.cell?_alloc_lt w5 _ _ hS5).trans b0
           have r1 : (w5.alloc (.cells #[.int .i64 (x.pg : Int), .slice (some ⟨U, 0, none⟩) p c5] 90)).cell? ⟨w.heap.size, 3, none⟩ = some (.slice (some ⟨g, oo, none⟩) n c0) := (World.cell?_alloc_lt w5 _ _ hB5).trans b1
           have r2 : (w5.alloc (.cells #[.int .i64 (x.pg : Int), .slice (some ⟨U, 0, none⟩) p c5] 90)).cell? ⟨g, oo + k * 2, none⟩ = some (.int .i64 (x.pg : Int)) := (World.cell?_alloc_lt w5 _ _ hg5).trans b2
           have r3 : (w5.alloc (.cells #[.int .i64 (x.pg : Int), .slice (some ⟨U, 0, none⟩) p c5] 90)).cell? ⟨g, oo + k * 2 + 1, none⟩ = some (.slice U0 p cu) := (World.cell?_alloc_lt w5 _ _ hg5).trans b3
           have rf3 : (w5.alloc (.cells #[.int .i64 (x.pg : Int), .slice (some ⟨U, 0, none⟩) p c5] 90)).frozen? ⟨S, 3, none⟩ = false := (World.frozen?_alloc_old w5 _ _ (Nat.ne_of_lt hS5)).trans sf3'
           have H5 := Lib.hid (And.intro hown5 hb5)
           clear hown5 hgr5 hb5)
        | (refine step_append_lies _ (by rfl) (.tmp 20) (.tmp 36) _ (by rfl) (S + 1) 90 i0 z0 2 32 Try.underlying67 hi0 hz0 hz1 hz2 hz3 (by omega) (.slice A k cp) k (rcells q) (by rfl) ((row_keep (w' := w5) HJ.out.2.2.2.2.1 (fun z _ hz => H5.out.2.block z hz)).alloc _) ⟨w5.heap.size, 0, none⟩ 1 1 [.int .i64 (x.pg : Int), .slice (some ⟨U, 0, none⟩) p c5] (by rfl) (by rfl) (two_new _ _ _ _) (by simp [Value.oneCell']) (by omega) (by unfold maxLen; omega) (by omega) (by rw [World.size_alloc]; omega) (w5.heap.size + 1) (by simp) ?_
           intro g6 cap6 w6 hown6 hgrow6 hat6 hlt6
           have hB6 := HNB.out
           have hg6n := HNG.out
           have v0 : w6.cell? ⟨S, 3, none⟩ = some (.slice A k cp) := (hgrow6.cell_far ⟨_, _, none⟩ (by rw [World.size_alloc]; show S < _; omega) HNE.out).trans r0
           have v1 : w6.cell? ⟨w.heap.size, 3, none⟩ = some (.slice (some ⟨g, oo, none⟩) n c0) := (hgrow6.cell_far ⟨_, _, none⟩ (by rw [World.size_alloc]; show w.heap.size < _; omega) hB6).trans r1
           have v2 : w6.cell? ⟨g, oo + k * 2, none⟩ = some (.int .i64 (x.pg : Int)) := (hgrow6.cell_far ⟨_, _, none⟩ (by rw [World.size_alloc]; show g < _; omega) hg6n).trans r2
           have v3 : w6.cell? ⟨g, oo + k * 2 + 1, none⟩ = some (.slice U0 p cu) := (hgrow6.cell_far ⟨_, _, none⟩ (by rw [World.size_alloc]; show g < _; omega) hg6n).trans r3
           have vf : w6.frozen? ⟨S, 3, none⟩ = false := (hgrow6.frozen_far ⟨_, _, none⟩ (by rw [World.size_alloc]; show S < _; omega) HNE.out).trans rf3
           have y1 : ∀ v, (w6.setCell ⟨S, 3, none⟩ v).cell? ⟨w.heap.size, 3, none⟩ = some (.slice (some ⟨g, oo, none⟩) n c0) := fun v => (World.cell?_of_block (a := ⟨w.heap.size, 3, none⟩) (setCell_far _ _ _ _ HNS.out.1)).trans v1
           have y2 : ∀ v, (w6.setCell ⟨S, 3, none⟩ v).cell? ⟨g, oo + k * 2, none⟩ = some (.int .i64 (x.pg : Int)) := fun v => (World.cell?_of_block (a := ⟨g, oo + k * 2, none⟩) (setCell_far _ _ _ _ HNS.out.2)).trans v2
           have y3 : ∀ v, (w6.setCell ⟨S, 3, none⟩ v).cell? ⟨g, oo + k * 2 + 1, none⟩ = some (.slice U0 p cu) := fun v => (World.cell?_of_block (a := ⟨g, oo + k * 2 + 1, none⟩) (setCell_far _ _ _ _ HNS.out.2)).trans v3
           have H6 := Lib.hid (And.intro hown6 (And.intro hgrow6 hat6))
           clear hown6 hgrow6 hat6 hB6 hg6n))
      all_goals
        go_wp2_with (fail)
        go_roundw
        case rel =>
          obtain ⟨j1, j2, j3, j4, j5, j6, j7, j8, j9, j10, _⟩ := HJ.out
          exact ⟨k + 1, by omega, by go_num, copy_step HS.out.2 j1 j2 j3 j4 j5 j6 j7 j8 j9 (j10 ▸ H5.out.1) H5.out.2 (j10 ▸ H6.out.1) (j10 ▸ H6.out.2.1) H6.out.2.2⟩
        case measure => simp [intOf]; omega
    · obtain rfl : k = n := by omega
      have e1 : ¬ ((k : Nat) : Int) < (k : Int) := by omega
      obtain ⟨s0, s1, s2, s3⟩ := four_at hSc
      obtain ⟨q0, q1, q2, q3⟩ := four_at hRc
      rw [HX.out.2.2.2.2.1] at q0 q1 q2 q3
      have qf : ∀ o, wr.frozen? ⟨w.heap.size + 1, o, none⟩ = false := fun o => by rw [← HX.out.2.2.2.2.1]; simp [World.frozen?, hRc]
      have qf0 := qf 0
      have qf1 := qf 1
      have qf2 := qf 2
      have qf3 := qf 3
      have HJ := Lib.hid (And.intro hqk (And.intro hq (And.intro hu (And.intro hpw (And.intro hr (And.intro hSc (And.intro hRc hb)))))))
      clear hqk hq hu hpw hr hSc hRc hb qf
      go_wp2_with (fail)
      obtain ⟨hqk, hq, hu, hpw, hr, hSc, hRc, hb⟩ := HJ.out
      have hfin := four_set hRc (.int .i64 s) (.int .i64 o) (.int .i64 kp) (.slice A k cp)
      rw [HX.out.2.2.2.2.1] at hfin
      obtain ⟨q4, q5, q6, q7⟩ := four_at hfin
      refine bodyPost_ret (v := stv s o kp A k cp) (by simp [results, Try.results69, go_sem, q4, q5, q6, q7]) rfl ⟨?_, ?_⟩
      · have hfar : ∀ z, z ≠ w.heap.size + 1 → ((((wr.setCell ⟨w.heap.size + 1, 0, none⟩ (.int .i64 s)).setCell ⟨w.heap.size + 1, 1, none⟩ (.int .i64 o)).setCell ⟨w.heap.size + 1, 2, none⟩ (.int .i64 kp)).setCell ⟨w.heap.size + 1, 3, none⟩ (.slice A k cp)).heap[z]? = wr.heap[z]? := fun z hz => (setCell_far _ _ _ _ hz).trans ((setCell_far _ _ _ _ hz).trans ((setCell_far _ _ _ _ hz).trans (setCell_far _ _ _ _ hz)))
        have hSs := HS.out.1
        have hall : q.map (·.1) = sl := by rw [hq, HX.out.2.1, List.take_length]
        refine ⟨A, cp, q, by rw [HX.out.2.1], hall, fun j x hx => ?_, hpw, row_low (B := S + 1) (row_keep hr fun z h1 h2 => hfar z (by omega)) (by omega)⟩
        obtain ⟨h1, h2⟩ := hu j x hx
        exact ⟨row_low (B := S + 1) (row_keep h1 fun z h1 h2 => hfar z (by omega)) (by omega), h2⟩
      · have hbw := HX.out.2.2.1.trans (hb.mono (by omega))
        exact (((hbw.setCell (p := ⟨w.heap.size + 1, 0, none⟩) (Nat.le_succ _) _).setCell (p := ⟨w.heap.size + 1, 1, none⟩) (Nat.le_succ _) _).setCell (p := ⟨w.heap.size + 1, 2, none⟩) (Nat.le_succ _) _).setCell (p := ⟨w.heap.size + 1, 3, none⟩) (Nat.le_succ _) _
end Sl
end Go.Proofs.Ytlknhbcambdccaa
