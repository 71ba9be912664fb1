/- Rows of blocks: appended, written in place. -/
import Derived.Test.YtjgakcpjphdicaaK9
import Derived.Laws.OwnMore
namespace Go.Proofs.Ytjgakcpjphdicaa
open Go.RowKit
namespace Of

/-- The cells of blocks. -/
def cb : List OB → List Value
  | [] => []
  | b :: L => .int .i64 b.s :: .int .i64 b.a :: .int .i64 b.f :: .int .i64 b.t :: cb L
theorem cb_len : ∀ L : List OB, (cb L).length = L.length * 4
  | [] => rfl
  | b :: L => by simp only [cb, List.length_cons, cb_len L]; omega
theorem cb_append : ∀ L M : List OB, cb (L ++ M) = cb L ++ cb M
  | [], M => rfl
  | b :: L, M => by simp only [cb, List.cons_append, cb_append L M]
theorem cb_one : ∀ L : List OB, ∀ u ∈ cb L, u.oneCell' = true
  | [], u, h => by cases h
  | b :: L, u, h => by
    simp only [cb, List.mem_cons] at h
    rcases h with rfl | rfl | rfl | rfl | h
    · rfl
    · rfl
    · rfl
    · rfl
    · exact cb_one L u h
theorem cb_get : ∀ (L : List OB) (j : Nat) (b : OB), L[j]? = some b → (cb L)[j * 4]? = some (.int .i64 b.s) ∧ (cb L)[j * 4 + 1]? = some (.int .i64 b.a) ∧ (cb L)[j * 4 + 2]? = some (.int .i64 b.f) ∧ (cb L)[j * 4 + 3]? = some (.int .i64 b.t)
  | [], j, b, h => by simp at h
  | x :: L, 0, b, h => by
    simp at h; subst h
    exact ⟨rfl, rfl, rfl, rfl⟩
  | x :: L, j + 1, b, h => by
    have := cb_get L j b (by simpa using h)
    have e : (j + 1) * 4 = j * 4 + 4 := by omega
    rw [e]
    exact this
theorem cb_set : ∀ (L : List OB) (j : Nat) (b : OB), L[j]? = some b → ∀ (a f t : Int), (((cb L).set (j * 4 + 1) (.int .i64 a)).set (j * 4 + 2) (.int .i64 f)).set (j * 4 + 3) (.int .i64 t) = cb (L.set j ⟨b.s, a, f, t⟩)
  | [], j, b, h => by simp at h
  | x :: L, 0, b, h => by
    intro a f t
    simp at h; subst h
    rfl
  | x :: L, j + 1, b, h => by
    intro a f t
    have := cb_set L j b (by simpa using h) a f t
    have e : (j + 1) * 4 = j * 4 + 4 := by omega
    rw [e]
    show _ = _ :: _ :: _ :: _ :: cb (L.set j _)
    rw [← this]
    rfl
theorem cb_addr {w : World} {ad : Addr} {c : Nat} {L : List OB} (h : OBAt w (some ad) c L) : ∀ (j : Nat) (u : Value), (cb L)[j]? = some u → w.cell? (ad.add j) = some u := by
  intro j u hu
  have hj := (List.getElem?_eq_some_iff.1 hu).1
  rw [cb_len] at hj
  obtain ⟨x, hx⟩ : ∃ x, L[j / 4]? = some x := ⟨_, List.getElem?_eq_getElem (by omega)⟩
  obtain ⟨g, o, hA, hg, d0, d1, d2, d3⟩ := h.2.2 _ x hx
  obtain ⟨e0, e1, e2, e3⟩ := cb_get L (j / 4) x hx
  injection hA with hA
  subst hA
  rw [add_plain]
  have hm : j % 4 = 0 ∨ j % 4 = 1 ∨ j % 4 = 2 ∨ j % 4 = 3 := by omega
  rcases hm with hm | hm | hm | hm
  · rw [show j / 4 * 4 = j by omega] at e0 d0
    rw [e0] at hu; injection hu with hu; rw [← hu]; exact d0
  · rw [show j / 4 * 4 + 1 = j by omega] at e1
    rw [show o + j / 4 * 4 + 1 = o + j by omega] at d1
    rw [e1] at hu; injection hu with hu; rw [← hu]; exact d1
  · rw [show j / 4 * 4 + 2 = j by omega] at e2
    rw [show o + j / 4 * 4 + 2 = o + j by omega] at d2
    rw [e2] at hu; injection hu with hu; rw [← hu]; exact d2
  · rw [show j / 4 * 4 + 3 = j by omega] at e3
    rw [show o + j / 4 * 4 + 3 = o + j by omega] at d3
    rw [e3] at hu; injection hu with hu; rw [← hu]; exact d3
/-- A row of blocks of one's own. -/
abbrev OwnB (w : World) (B : Nat) (A : Option Addr) (c : Nat) (L : List OB) : Prop := w.ownsRow B 42 4 (.slice A L.length c) L.length (cb L)
theorem OwnB.at {w : World} {B c : Nat} {A : Option Addr} {L : List OB} (h : OwnB w B A c L) : OBAt w A c L ∧ ∀ g, A.map (·.block) = some g → B ≤ g ∧ g < w.heap.size := by
  rcases h.2 with ⟨hv, h0⟩ | ⟨g, cp, cur, hv, hB, hg, h1, h2, _⟩
  · injection hv with e1 e2 e3
    subst e1; subst e3
    exact ⟨⟨by omega, by unfold maxLen; omega, fun j x hx => by have := (List.getElem?_eq_some_iff.1 hx).1; omega⟩, fun g hg => by cases hg⟩
  · injection hv with e1 e2 e3
    subst e1; subst e3
    have hc := fun j hj => World.ownsRow.cellAt h j hj
    refine ⟨⟨h1, h2, fun j x hx => ?_⟩, fun g' hg' => ?_⟩
    · have hjl := (List.getElem?_eq_some_iff.1 hx).1
      obtain ⟨e0, e1, e2, e3⟩ := cb_get L j x hx
      rw [← hc _ (by omega)] at e0 e1 e2 e3
      refine ⟨g, 0, rfl, lt_of_heap hg, ?_, ?_, ?_, ?_⟩
      · rw [Nat.zero_add]; exact e0
      · rw [Nat.zero_add]; exact e1
      · rw [Nat.zero_add]; exact e2
      · rw [Nat.zero_add]; exact e3
    · injection hg' with hg'
      exact ⟨by rw [← hg']; exact hB, by rw [← hg']; exact lt_of_heap hg⟩
theorem block_info : (Try.prog.info? 42).map (fun i => (i.zero.isSome, i.zero.map (fun z => z.cells.size), i.size, i.bytes)) = some (true, some 4, 4, 32) := by kernel_rfl
set_option maxRecDepth 100000 in
theorem run_append_b (w : World) (ty : TypeId) (base : Nat) (A0 : Option Addr) (c0 : Nat) (X : List OB) (hown : OwnB w base A0 c0 X)
    (A : Option Addr) (c : Nat) (M : List OB) (hM : OBAt w A c M) (hn : A = none → c = 0) (hlen : X.length + M.length ≤ 100000) (hbase : base ≤ w.heap.size) :
    ∃ A' c' w', (Builtin.append_ #[22, 22] ty #[.slice A0 X.length c0, .slice A M.length c]).run Try.prog w = .ok (.slice A' (X ++ M).length c') w' ∧ OwnB w' base A' c' (X ++ M) ∧ w.grownBy w' (Value.slice A0 X.length c0).ownBlock := by
  obtain ⟨i0, z0, hi0, hz0, hz1, hz2, hz3⟩ := info_open block_info
  cases A with
  | none =>
    obtain rfl := hn rfl
    have hM0 : M = [] := List.length_eq_zero_iff.1 (by have := hM.1; omega)
    subst hM0
    have hrun := run_append_owned_none (P := Try.prog) (w := w) base 22 ty 42 i0 4 Try.underlying22 hi0 _ X.length (cb X) hown
    rw [List.append_nil]
    exact ⟨A0, c0, w, hrun, hown, grown_refl _ _⟩
  | some ad =>
    obtain ⟨v', w', hr, h2, h3, _⟩ := run_append_own (P := Try.prog) w base 22 ty 42 i0 z0 4 32 Try.underlying22 hi0 hz0 hz1 hz2 hz3 (by omega) _ X.length (cb X) hown ad M.length c (cb M) (cb_len M) (cb_addr hM) (cb_one M) (by unfold maxLen; omega) (by omega) hbase
    rw [← List.length_append, ← cb_append] at h2
    obtain ⟨A', c', rfl⟩ := row_own h2
    exact ⟨A', c', w', hr, h2, h3⟩
theorem wp_append_b {ts : TypeId} {o : Oper} {a : Act} {w : World} {K : Act → World → Prop} {Q : Exit → Act → World → Prop} (s x : Operand) (ho : o.op = .call { callee := .builtin .append, args := #[s, x], argTypes := #[ts, ts] })
    (v u r : Value) (hs : a.eval s = v) (hx : a.eval x = u) (w' : World) (hrun : (Builtin.append_ #[ts, ts] o.type #[v, u]).run Try.prog w = .ok r w') (h : K (a.put o.dst r) w') : o.wp Try.prog a w K Q := by
  unfold Oper.wp
  simp only [execOp, ho, resolve, invoke, builtin, Sem.run_bind, Sem.run_pure, Result.andThen_ok, List.map_toArray, List.map_cons, List.map_nil, hs, hx, hrun]
  exact h
set_option maxRecDepth 100000 in
/-- Appending to a row of blocks of one's own, in a region that draws. -/
theorem step_b {w : World} {ops : Array Oper} {o : Oper} {a : Act} {K : Act → World → Prop} {Q : Exit → Act → World → Prop} {E : Prop} (hgd : o.guard = none) (s x : Operand) (ho : o.op = .call { callee := .builtin .append, args := #[s, x], argTypes := #[22, 22] })
    (n : Nat) (A0 : Option Addr) (c0 : Nat) (X : List OB) (hs : a.eval s = .slice A0 X.length c0) (ht : OwnB w n A0 c0 X)
    (A : Option Addr) (c : Nat) (M : List OB) (hx : a.eval x = .slice A M.length c) (hM : OBAt w A c M) (hn : A = none → c = 0) (hlen : X.length + M.length ≤ 100000) (hb : n ≤ w.heap.size)
    (h : ∀ A' c' w', OwnB w' n A' c' (X ++ M) → Below n w w' → K (a.put o.dst (.slice A' (X ++ M).length c')) w') :
    if Region.wanted o (yielded ops a.tmps) = true then Oper.wp Try.prog o a w K Q else E := by
  obtain ⟨A', c', w', hrun, h1, h2⟩ := run_append_b w o.type n A0 c0 X ht A c M hM hn hlen hb
  have hbel : Below n w w' := below_grown h2 hb fun g e => (ht.lt g e).1
  exact step_of hgd (wp_append_b s x ho _ _ _ hs hx w' hrun (h A' c' w' h1 hbel))
set_option maxRecDepth 100000 in
/-- The same, where the order is that of the text. -/
theorem wpList_b {w : World} {ops : Array Oper} {rest : List Oper} {o : Oper} {a : Act} {Q : Exit → Act → World → Prop} (hgd : o.guard = none) (s x : Operand) (ho : o.op = .call { callee := .builtin .append, args := #[s, x], argTypes := #[22, 22] })
    (n : Nat) (A0 : Option Addr) (c0 : Nat) (X : List OB) (hs : a.eval s = .slice A0 X.length c0) (ht : OwnB w n A0 c0 X)
    (A : Option Addr) (c : Nat) (M : List OB) (hx : a.eval x = .slice A M.length c) (hM : OBAt w A c M) (hn : A = none → c = 0) (hlen : X.length + M.length ≤ 100000) (hb : n ≤ w.heap.size)
    (h : ∀ A' c' w', OwnB w' n A' c' (X ++ M) → Below n w w' → wpList Try.prog ops Q rest (a.put o.dst (.slice A' (X ++ M).length c')) w') : wpList Try.prog ops Q (o :: rest) a w := by
  obtain ⟨A', c', w', hrun, h1, h2⟩ := run_append_b w o.type n A0 c0 X ht A c M hM hn hlen hb
  have hbel : Below n w w' := below_grown h2 hb fun g e => (ht.lt g e).1
  exact wpList_plain hgd fun _ hK => wp_append_b s x ho _ _ _ hs hx w' hrun (hK _ _ (h A' c' w' h1 hbel))
theorem ownb_new (w : World) : OwnB (w.alloc (.cells #[] 42)) w.heap.size (some ⟨w.heap.size, 0, none⟩) 0 [] :=
  ⟨rfl, .inr ⟨w.heap.size, 0, #[], rfl, Nat.le_refl _, by rw [heapAlloc, if_pos rfl], Nat.le_refl _, Nat.zero_le _, rfl, rfl⟩⟩
end Of
end Go.Proofs.Ytjgakcpjphdicaa
