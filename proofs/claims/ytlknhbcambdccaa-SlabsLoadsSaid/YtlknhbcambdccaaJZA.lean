/- How the reference's cache lies in memory. -/
import Derived.Test.YtlknhbcambdccaaK28
import Derived.Test.YtlknhbcambdccaaJYP
import Derived.Test.YtlknhbcambdccaaK14
namespace Go.Proofs.Ytlknhbcambdccaa
open Go.RowKit
namespace Sl
open Bu

/-- A slab of the reference, the block of its objects, and its capacity. -/
abbrev RS := Slb × Nat × Nat
def rcells (q : List RS) : List Value := q.flatMap fun x => [.int .i64 (x.1.pg : Int), .slice (some ⟨x.2.1, 0, none⟩) x.1.us.length x.2.2]
theorem rcells_add (p q : List RS) : rcells (p ++ q) = rcells p ++ rcells q := by simp [rcells]
theorem rcells_one' (x : RS) : rcells [x] = [.int .i64 (x.1.pg : Int), .slice (some ⟨x.2.1, 0, none⟩) x.1.us.length x.2.2] := by simp [rcells]
theorem rcells_cons (x : RS) (q : List RS) : rcells (x :: q) = .int .i64 (x.1.pg : Int) :: .slice (some ⟨x.2.1, 0, none⟩) x.1.us.length x.2.2 :: rcells q := by simp [rcells]
theorem rcells_len (q : List RS) : (rcells q).length = q.length * 2 := by
  induction q with
  | nil => rfl
  | cons x q ih => rw [rcells_cons, List.length_cons, List.length_cons, ih, List.length_cons]; omega
theorem rcells_get : ∀ (q : List RS) (j : Nat) (x : RS), q[j]? = some x → (rcells q)[j * 2]? = some (.int .i64 (x.1.pg : Int)) ∧ (rcells q)[j * 2 + 1]? = some (.slice (some ⟨x.2.1, 0, none⟩) x.1.us.length x.2.2) := by
  intro q
  induction q with
  | nil => intro j x h; simp at h
  | cons y q ih =>
    intro j x h
    rw [rcells_cons]
    cases j with
    | zero =>
      simp at h
      subst h
      exact ⟨rfl, rfl⟩
    | succ j =>
      have := ih j x (by simpa using h)
      rw [show (j + 1) * 2 = j * 2 + 2 by omega, show j * 2 + 2 + 1 = (j * 2 + 1) + 2 by omega]
      exact ⟨by simpa using this.1, by simpa using this.2⟩
theorem rcells_cell (q : List RS) : ∀ u ∈ rcells q, u.oneCell' = true := by
  intro u hu
  unfold rcells at hu
  obtain ⟨x, _, hx⟩ := List.mem_flatMap.1 hu
  simp at hx
  rcases hx with rfl | rfl <;> rfl

/-- A slice of two-cell elements that reads so. -/
structure RowAt (w : World) (A : Option Addr) (c : Nat) (q : List RS) : Prop where
  len : q.length ≤ c
  cap : c ≤ maxLen
  nc : A = none → c = 0
  at_ : ∀ (j : Nat) (x : RS), q[j]? = some x → ∃ g o, A = some ⟨g, o, none⟩ ∧ g < w.heap.size ∧ w.cell? ⟨g, o + j * 2, none⟩ = some (.int .i64 (x.1.pg : Int)) ∧ w.cell? ⟨g, o + j * 2 + 1, none⟩ = some (.slice (some ⟨x.2.1, 0, none⟩) x.1.us.length x.2.2)

theorem RowAt.keep {w w' : World} {A : Option Addr} {c : Nat} {q : List RS} (h : RowAt w A c q) (hs : w.heap.size ≤ w'.heap.size) (hk : ∀ g, A.map (·.block) = some g → g < w.heap.size → w'.heap[g]? = w.heap[g]?) : RowAt w' A c q :=
  ⟨h.len, h.cap, h.nc, fun j x hx => by
    obtain ⟨g, o, h1, h2, h3, h4⟩ := h.at_ j x hx
    have e := hk g (by rw [h1]; rfl) h2
    exact ⟨g, o, h1, by omega, (World.cell?_of_block (a := ⟨g, _, none⟩) e).trans h3, (World.cell?_of_block (a := ⟨g, _, none⟩) e).trans h4⟩⟩
theorem RowAt.take {w : World} {A : Option Addr} {c : Nat} {q : List RS} (h : RowAt w A c q) (k : Nat) : RowAt w A c (q.take k) :=
  ⟨Nat.le_trans (List.length_take_le' _ _) h.len, h.cap, h.nc, fun j x hx => by
    rw [List.getElem?_take] at hx
    split at hx
    · exact h.at_ j x hx
    · cases hx⟩
theorem RowAt.drop {w : World} {g o c k : Nat} {q : List RS} (h : RowAt w (some ⟨g, o, none⟩) c q) (hk : k ≤ q.length) : RowAt w (some ⟨g, o + k * 2, none⟩) (c - k) (q.drop k) := by
  have h1 := h.len
  have h2 := h.cap
  refine ⟨by simp; omega, by omega, (fun e => by cases e), fun j x hx => ?_⟩
  rw [List.getElem?_drop] at hx
  obtain ⟨g', o', hA, hg, d1, d2⟩ := h.at_ _ x hx
  injection hA with hA; injection hA with e1 e2
  subst e1; subst e2
  exact ⟨g, o + k * 2, rfl, hg, by rw [show o + k * 2 + j * 2 = o + (k + j) * 2 by rw [Nat.add_mul]; omega]; exact d1, by rw [show o + k * 2 + j * 2 = o + (k + j) * 2 by rw [Nat.add_mul]; omega]; exact d2⟩
theorem RowAt.low {w : World} {A : Option Addr} {c : Nat} {q : List RS} (h : RowAt w A c q) {j : Nat} (hj : j < q.length) : ∃ g o, A = some ⟨g, o, none⟩ := by
  obtain ⟨g, o, h1, _⟩ := h.at_ j _ (List.getElem?_eq_getElem hj)
  exact ⟨g, o, h1⟩

/-- A row of the call's own. -/
abbrev OwnR (w : World) (B : Nat) (A : Option Addr) (c : Nat) (q : List RS) : Prop := w.ownsRow B 90 2 (.slice A q.length c) q.length (rcells q)
theorem OwnR.at {w : World} {B c : Nat} {A : Option Addr} {q : List RS} (h : OwnR w B A c q) : RowAt w A c q ∧ ∀ g, A.map (·.block) = some g → B ≤ g ∧ g < w.heap.size := by
  rcases h.2 with ⟨hn, h0⟩ | ⟨g, cap, cur, hv, hB, hg, hnc, hcm, _⟩
  · injection hn with h1 h2 h3
    subst h1; subst h3
    obtain rfl : q = [] := List.length_eq_zero_iff.1 h0
    exact ⟨⟨Nat.le_refl _, Nat.zero_le _, fun _ => rfl, fun j x hx => by simp at hx⟩, fun g hg => by cases hg⟩
  · injection hv with h1 h2 h3
    subst h1; subst h3
    refine ⟨⟨hnc, hcm, (fun e => by cases e), fun j x hx => ?_⟩, fun g' hg' => ?_⟩
    · obtain ⟨k1, k2⟩ := rcells_get q j x hx
      have c1 := h.cells (g := g) rfl _ _ k1
      have c2 := h.cells (g := g) rfl _ _ k2
      rw [add0] at c1 c2
      exact ⟨g, 0, rfl, lt_of_heap hg, by rw [Nat.zero_add]; exact c1, by rw [Nat.zero_add]; exact c2⟩
    · simp at hg'; subst hg'
      exact ⟨hB, lt_of_heap hg⟩
theorem ownR_value {w : World} {B n : Nat} {v : Value} {L : List Value} (h : w.ownsRow B 90 2 v n L) : ∃ A c, v = .slice A n c := by
  rcases h.2 with ⟨hv, h0⟩ | ⟨g, cap, cur, hv, _⟩
  · exact ⟨none, 0, by rw [hv, h0]⟩
  · exact ⟨some ⟨g, 0, none⟩, cap, hv⟩
theorem row_addr {w : World} {ad : Addr} {c : Nat} {q : List RS} (h : RowAt w (some ad) c q) : ∀ (j : Nat) (u : Value), (rcells q)[j]? = some u → w.cell? (ad.add j) = some u := by
  intro j u hu
  have hj := (List.getElem?_eq_some_iff.1 hu).1
  rw [rcells_len] at hj
  obtain ⟨x, hx⟩ : ∃ x, q[j / 2]? = some x := ⟨_, List.getElem?_eq_getElem (by omega)⟩
  obtain ⟨g, o, hA, hg, d1, d2⟩ := h.at_ _ x hx
  obtain ⟨e1, e2⟩ := rcells_get q (j / 2) x hx
  injection hA with hA
  subst hA
  rw [add_plain]
  rcases Nat.mod_two_eq_zero_or_one j with hm | hm
  · have hjj : j / 2 * 2 = j := by omega
    rw [hjj] at e1 d1
    rw [e1] at hu
    injection hu with hu
    rw [← hu]; exact d1
  · have hjj : j / 2 * 2 + 1 = j := by omega
    have hoj : o + j / 2 * 2 + 1 = o + j := by omega
    rw [hjj] at e2
    rw [hoj] at d2
    rw [e2] at hu
    injection hu with hu
    rw [← hu]; exact d2

set_option maxRecDepth 100000 in
theorem wpList_append_row {w : World} {ops : Array Oper} {rest : List Oper} {o : Oper} {a : Act} {Q : Exit → Act → World → Prop} (hgd : o.guard = none) (s x : Operand)
    (ho : o.op = .call { callee := .builtin .append, args := #[s, x], argTypes := #[67, 67] })
    (base : Nat) (v : Value) (X : List RS) (hs : a.eval s = v) (hown : w.ownsRow base 90 2 v X.length (rcells X))
    (A : Option Addr) (c : Nat) (M : List RS) (hx : a.eval x = .slice A M.length c) (hM : RowAt w A c M) (hlen : X.length + M.length ≤ 100000) (hbase : base ≤ w.heap.size)
    (h : ∀ A' c' w', w'.ownsRow base 90 2 (.slice A' (X ++ M).length c') (X ++ M).length (rcells (X ++ M)) → w.grownBy w' v.ownBlock → wpList Try.prog ops Q rest (a.put o.dst (.slice A' (X ++ M).length c')) w') : wpList Try.prog ops Q (o :: rest) a w := by
  obtain ⟨i0, z0, hi0, hz0, hz1, hz2, hz3⟩ := info_open slblock_info
  have hcl : rcells (X ++ M) = rcells X ++ rcells M := rcells_add X M
  cases A with
  | none =>
    obtain rfl := hM.nc rfl
    have hM0 : M = [] := List.length_eq_zero_iff.1 (by have := hM.len; omega)
    subst hM0
    refine wpList_append_own_none hgd s x 67 ho base 90 i0 2 Try.underlying67 hi0 v X.length (rcells X) hs hown hx ?_
    obtain ⟨A', c', rfl⟩ := ownR_value hown
    have := h A' c' w (by rw [List.append_nil]; exact hown) (grown_refl _ _)
    rw [List.append_nil] at this
    exact this
  | some ad =>
    refine wpList_append_own w hgd s x 67 ho base 90 i0 z0 2 32 Try.underlying67 hi0 hz0 hz1 hz2 hz3 (by omega) v X.length (rcells X) hs hown ad M.length c (rcells M) hx (rcells_len M) (row_addr hM) (rcells_cell M) (by unfold maxLen; omega) (by omega) hbase ?_
    intro v' w' hown' hgrow _
    rw [← List.length_append, ← hcl] at hown'
    obtain ⟨A', c', rfl⟩ := ownR_value hown'
    exact h A' c' w' hown' hgrow

/-- The reference's cache: block r has it; the state of its allocator lies at Bp. -/
structure RefAt (w : World) (own : Own?) (r : Nat) (Bp : Addr) (s o kp : Nat) (q : List RS) : Prop where
  ownR : own r = some 0
  cell : ∃ A cap, w.heap[r]? = some (.cells #[.pointer (some Bp), .int .i64 (s : Int), .int .i64 (o : Int), .int .i64 (kp : Int), .slice A q.length cap] 133 (0, 0)) ∧ RowAt w A cap q ∧ (∀ g, A.map (·.block) = some g → own g = some 2 ∧ g < w.heap.size)
  used : ∀ (j : Nat) (x : RS), q[j]? = some x → own x.2.1 = some (x.1.pg + 10) ∧ w.ownsRow 0 4 1 (.slice (some ⟨x.2.1, 0, none⟩) x.1.us.length x.2.2) x.1.us.length (bcells x.1.us)

theorem RefAt.same {w w' : World} {own own' : Own?} {r : Nat} {Bp : Addr} {s o kp : Nat} {q : List RS} (h : RefAt w own r Bp s o kp q) (hs : w.heap.size ≤ w'.heap.size)
    (hk : ∀ k, own k ≠ none → k < w.heap.size → w'.heap[k]? = w.heap[k]? ∧ own' k = own k) : RefAt w' own' r Bp s o kp q := by
  obtain ⟨A, cap, h1, h2, h3⟩ := h.cell
  have hr := hk r (by rw [h.ownR]; simp) (lt_of_heap h1)
  refine ⟨hr.2.trans h.ownR, ⟨A, cap, hr.1.trans h1, h2.keep hs fun g hg hl => (hk g (by rw [(h3 g hg).1]; simp) hl).1, fun g hg => ?_⟩, fun j x hx => ?_⟩
  · obtain ⟨k1, k2⟩ := h3 g hg
    exact ⟨(hk g (by rw [k1]; simp) k2).2.trans k1, by omega⟩
  · obtain ⟨k1, k2⟩ := h.used j x hx
    have hu := hk x.2.1 (by rw [k1]; simp) (k2.lt _ rfl).2
    exact ⟨hu.2.trans k1, row_same k2 fun g hg => by
      have hg : x.2.1 = g := by injection hg
      rw [← hg]; exact hu.1⟩
end Sl
end Go.Proofs.Ytlknhbcambdccaa
