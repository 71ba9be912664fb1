/- Slices of any elements of some cells: how they lie, how they are appended. -/
import Derived.Test.YtnkkhbmbbkmfhaaJM1
import Derived.Test.YtnkkhbmbbkmfhaaProg
import Derived.Laws.AppendOwn
import Derived.Laws.AppendOwnNone
import Derived.Deep.AppendLies
import Derived.Deep.RegionLaw
import Derived.Deep.RegionHeld3
import Derived.Maps.AppendAt
import Derived.Laws.MakeOwn
import Derived.Laws.OwnMore
import Derived.OwnWalk
namespace Go.Proofs.Ytnkkhbmbbkmfhaa
open Go.RowKit
namespace Py

/-- An element's cells. -/
structure Enc {α : Type} (enc : α → List Value) (k : Nat) : Prop where
  pos : 0 < k
  len : ∀ x, (enc x).length = k
  one : ∀ x u, u ∈ enc x → u.oneCell' = true
section
variable {α : Type} {enc : α → List Value} {k : Nat}
def ce (enc : α → List Value) (L : List α) : List Value := L.flatMap enc
theorem ce_len (E : Enc enc k) : ∀ L : List α, (ce enc L).length = L.length * k
  | [] => by simp [ce]
  | x :: L => by
    have ih := ce_len E L
    unfold ce at *
    rw [List.flatMap_cons, List.length_append, E.len, ih, List.length_cons, Nat.succ_mul]; omega
theorem ce_add (L M : List α) : ce enc (L ++ M) = ce enc L ++ ce enc M := by unfold ce; rw [List.flatMap_append]
theorem ce_one (E : Enc enc k) (L : List α) : ∀ u ∈ ce enc L, u.oneCell' = true := by
  intro u hu
  unfold ce at hu
  obtain ⟨x, _, h⟩ := List.mem_flatMap.1 hu
  exact E.one x u h
theorem ce_get (E : Enc enc k) : ∀ {L : List α} {j : Nat} {x : α}, L[j]? = some x → ∀ {i : Nat}, i < k → (ce enc L)[j * k + i]? = (enc x)[i]?
  | [], j, x, h, i, _ => by simp at h
  | y :: L, 0, x, h, i, hi => by
    have e : y = x := by simpa using h
    subst e
    unfold ce
    rw [List.flatMap_cons, Nat.zero_mul, Nat.zero_add, List.getElem?_append_left (by rw [E.len]; exact hi)]
  | y :: L, j + 1, x, h, i, hi => by
    have h' : L[j]? = some x := by simpa using h
    have ih := ce_get E h' hi
    unfold ce at *
    rw [List.flatMap_cons, List.getElem?_append_right (by rw [E.len, Nat.succ_mul]; omega), E.len]
    rw [← ih]; congr 1; rw [Nat.succ_mul]; omega
theorem ce_at (E : Enc enc k) {L : List α} {n : Nat} (h : n < L.length * k) : ∃ j i x, n = j * k + i ∧ i < k ∧ L[j]? = some x := by
  have hp := E.pos
  refine ⟨n / k, n % k, ?_⟩
  have h1 : n / k < L.length := Nat.div_lt_of_lt_mul (by rw [Nat.mul_comm]; exact h)
  refine ⟨_, ?_, Nat.mod_lt _ hp, List.getElem?_eq_getElem h1⟩
  rw [Nat.mul_comm]; exact (Nat.div_add_mod n k).symm
/-- A slice of elements that lies somewhere. -/
def EAt (enc : α → List Value) (k : Nat) (w : World) (A : Option Addr) (c : Nat) (L : List α) : Prop :=
  L.length ≤ c ∧ c ≤ maxLen ∧ ∀ (j : Nat) (x : α), L[j]? = some x → ∃ g o, A = some ⟨g, o, none⟩ ∧ g < w.heap.size ∧ ∀ i v, i < k → (enc x)[i]? = some v → w.cell? ⟨g, o + j * k + i, none⟩ = some v
theorem EAt.keep {w w' : World} {A : Option Addr} {c : Nat} {L : List α} (h : EAt enc k w A c L) (hs : w.heap.size ≤ w'.heap.size) (hk : ∀ g, A.map (·.block) = some g → g < w.heap.size → w'.heap[g]? = w.heap[g]?) : EAt enc k w' A c L := by
  refine ⟨h.1, h.2.1, fun j x hx => ?_⟩
  obtain ⟨g, o, hA, hg, h1⟩ := h.2.2 j x hx
  have e := hk g (by rw [hA]; rfl) hg
  exact ⟨g, o, hA, by omega, fun i v hi hv => (World.cell?_of_block (a := ⟨g, _, none⟩) e).trans (h1 i v hi hv)⟩
theorem EAt.below {w w' : World} {n : Nat} {A : Option Addr} {c : Nat} {L : List α} (h : EAt enc k w A c L) (hb : Below n w w') (hn : w.heap.size ≤ n) : EAt enc k w' A c L :=
  h.keep hb.size fun g _ hg => hb.block g (by omega)
theorem EAt.take {w : World} {A : Option Addr} {c : Nat} {L : List α} (h : EAt enc k w A c L) (n c' : Nat) (hk : min n L.length ≤ c') (hc : c' ≤ maxLen) : EAt enc k w A c' (L.take n) :=
  ⟨by rw [List.length_take]; exact hk, hc, fun j x hx => by
    rw [List.getElem?_take] at hx
    split at hx
    · exact h.2.2 j x hx
    · cases hx⟩
theorem EAt.drop {w : World} {g o c n : Nat} {L : List α} (h : EAt enc k w (some ⟨g, o, none⟩) c L) (hk : n ≤ L.length) : EAt enc k w (some ⟨g, o + n * k, none⟩) (c - n) (L.drop n) := by
  have h1 := h.1
  have h2 := h.2.1
  refine ⟨by rw [List.length_drop]; omega, by omega, fun j x hx => ?_⟩
  rw [List.getElem?_drop] at hx
  obtain ⟨g', o', hA, hg, d⟩ := h.2.2 _ x hx
  injection hA with hA; injection hA with e1 e2
  subst e1; subst e2
  refine ⟨g, o + n * k, rfl, hg, fun i v hi hv => ?_⟩
  have := d i v hi hv
  rw [Nat.add_mul] at this
  rw [show o + n * k + j * k + i = o + (n * k + j * k) + i by omega]; exact this
theorem eat_nil (w : World) : EAt enc k w none 0 [] := ⟨Nat.le_refl _, Nat.zero_le _, fun j x hx => by simp at hx⟩
theorem EAt.addr (E : Enc enc k) {w : World} {ad : Addr} {c : Nat} {L : List α} (h : EAt enc k w (some ad) c L) : ∀ (j : Nat) (u : Value), (ce enc L)[j]? = some u → w.cell? (ad.add j) = some u := by
  intro j u hu
  have hj := (List.getElem?_eq_some_iff.1 hu).1
  rw [ce_len E] at hj
  obtain ⟨q, i, x, rfl, hi, hx⟩ := ce_at E hj
  rw [ce_get E hx hi] at hu
  obtain ⟨g, o, hA, _, d⟩ := h.2.2 q x hx
  injection hA with hA
  subst hA
  rw [add_plain, ← Nat.add_assoc]
  exact d i u hi hu
/-- A row of one's own. -/
abbrev OwnE (enc : α → List Value) (k : Nat) (w : World) (B T : Nat) (A : Option Addr) (c : Nat) (L : List α) : Prop := w.ownsRow B T k (.slice A L.length c) L.length (ce enc L)
theorem OwnE.at (E : Enc enc k) {w : World} {B T c : Nat} {A : Option Addr} {L : List α} (h : OwnE enc k w B T A c L) : EAt enc k w A c L ∧ ∀ g, A.map (·.block) = some g → B ≤ g ∧ g < w.heap.size := by
  rcases h.2 with ⟨hv, h0⟩ | ⟨g, cp, cur, hv, hB, hg, h1, h2, _⟩
  · injection hv with e1 e2 e3
    subst e1; subst e3
    exact ⟨⟨by omega, by unfold maxLen; omega, fun j x hx => by have := (List.getElem?_eq_some_iff.1 hx).1; omega⟩, fun g hg => by cases hg⟩
  · injection hv with e1 e2 e3
    subst e1; subst e3
    refine ⟨⟨h1, h2, fun j x hx => ?_⟩, fun g' hg' => ?_⟩
    · have hjl := (List.getElem?_eq_some_iff.1 hx).1
      refine ⟨g, 0, rfl, lt_of_heap hg, fun i v hi hvv => ?_⟩
      rw [← ce_get E hx hi] at hvv
      have := h.cells (g := g) rfl _ _ hvv
      rw [add_plain] at this
      rw [Nat.zero_add]; rw [Nat.zero_add] at this; exact this
    · injection hg' with hg'
      exact ⟨by rw [← hg']; exact hB, by rw [← hg']; exact lt_of_heap hg⟩
theorem OwnE.nil {w : World} {B T c : Nat} {A : Option Addr} {L : List α} (h : OwnE enc k w B T A c L) : A = none → c = 0 ∧ L = [] := by
  rintro rfl
  rcases h.2 with ⟨hv, h0⟩ | ⟨g, cp, cur, hv, _⟩
  · injection hv with e1 e2 e3
    exact ⟨e3, List.length_eq_zero_iff.1 h0⟩
  · injection hv with h1; cases h1
theorem owne_nil (w : World) (B T : Nat) : OwnE enc k w B T none 0 [] := ⟨by simp [ce], .inl ⟨rfl, rfl⟩⟩
theorem owne_new (w : World) (T : TypeId) : OwnE enc k (w.alloc (.cells #[] T)) w.heap.size T (some ⟨w.heap.size, 0, none⟩) 0 [] :=
  ⟨by simp [ce], .inr ⟨w.heap.size, 0, #[], rfl, Nat.le_refl _, by rw [heapAlloc, if_pos rfl], Nat.le_refl _, Nat.zero_le _, by simp, by simp [ce]⟩⟩
theorem owne_one (E : Enc enc k) (w : World) (T : TypeId) (x : α) (cs : Array Value) (hcs : cs.toList = enc x) : OwnE enc k (w.alloc (.cells cs T)) w.heap.size T (some ⟨w.heap.size, 0, none⟩) 1 [x] := by
  have hc : ce enc [x] = enc x := by simp [ce]
  have hl : cs.size = k := by rw [← Array.length_toList, hcs, E.len]
  refine ⟨by rw [hc, E.len]; simp, .inr ⟨w.heap.size, 1, cs, rfl, Nat.le_refl _, by rw [heapAlloc, if_pos rfl], Nat.le_refl _, by unfold maxLen; omega, by rw [hl]; simp, ?_⟩⟩
  rw [hc, hcs]
  exact List.take_of_length_le (by rw [E.len]; simp)
theorem grown_refl (w : World) (row : Option Nat) : w.grownBy w row := ⟨rfl, rfl, rfl, Nat.le_refl _, fun _ _ _ => rfl⟩
theorem below_grown {w w' : World} {v : Value} {n : Nat} (h : w.grownBy w' v.ownBlock) (hn : n ≤ w.heap.size) (hv : ∀ g, v.ownBlock = some g → n ≤ g) : Below n w w' :=
  ⟨h.os, h.tape, h.output, h.size, fun k hk => h.block k (by omega) fun e => by have := hv k e.symm; omega⟩
set_option maxRecDepth 100000 in
/-- Appending to a row of one's own, with the place of the result. -/
theorem run_append_e (E : Enc enc k) {ts te : TypeId} {by_ : Nat} (hts : Try.prog.underlying ts = some (.slice te)) (hte : (Try.prog.info? te).map (fun i => (i.zero.isSome, i.zero.map (fun z => z.cells.size), i.size, i.bytes)) = some (true, some k, k, by_)) (hby : by_ ≤ 1000000)
    (w : World) (ty : TypeId) (base : Nat) (A0 : Option Addr) (c0 : Nat) (X : List α) (hown : OwnE enc k w base te A0 c0 X)
    (A : Option Addr) (c : Nat) (M : List α) (hM : EAt enc k w A c M) (hn : A = none → c = 0) (hlen : X.length + M.length ≤ 100000) (hbase : base ≤ w.heap.size) :
    ∃ A' c' w', (Builtin.append_ #[ts, ts] ty #[.slice A0 X.length c0, .slice A M.length c]).run Try.prog w = .ok (.slice A' (X ++ M).length c') w' ∧ OwnE enc k w' base te A' c' (X ++ M) ∧ w.grownBy w' (Value.slice A0 X.length c0).ownBlock ∧ (A'.map (·.block) = A0.map (·.block) ∨ A'.map (·.block) = some w.heap.size) := by
  obtain ⟨i0, z0, hi0, hz0, hz1, hz2, hz3⟩ := info_open hte
  have hkp := E.pos
  cases A with
  | none =>
    obtain rfl := hn rfl
    have hM0 : M = [] := List.length_eq_zero_iff.1 (by have := hM.1; omega)
    subst hM0
    have hrun := run_append_owned_none (P := Try.prog) (w := w) base ts ty te i0 k hts hi0 _ X.length (ce enc X) hown
    rw [List.append_nil]
    exact ⟨A0, c0, w, hrun, hown, grown_refl _ _, .inl rfl⟩
  | some ad =>
    have hbb : (X.length + M.length) * by_ ≤ 100000 * 1000000 := Nat.mul_le_mul hlen hby
    obtain ⟨v', w', hr, h2, h3, _, h5⟩ := run_append_own_at (P := Try.prog) (w := w) base ts ty te i0 z0 k by_ hts hi0 hz0 hz1 hz2 hz3 (by omega) _ X.length (ce enc X) hown ad M.length c (ce enc M) (ce_len E M) (hM.addr E) (ce_one E M) (by unfold maxLen; omega) (by omega) hbase
    rw [← List.length_append, ← ce_add] at h2
    obtain ⟨A', c', rfl⟩ := row_own h2
    refine ⟨A', c', w', hr, h2, h3, ?_⟩
    cases A' with
    | none =>
      rcases h5 with h5 | h5
      · left
        cases A0 with
        | none => rfl
        | some a => cases h5
      · cases h5
    | some b =>
      rcases h5 with h5 | h5
      · left
        cases A0 with
        | none => cases h5
        | some a => exact h5
      · right; exact h5
theorem own_blk {A0 : Option Addr} {n c0 g : Nat} (h : (Value.slice A0 n c0).ownBlock = some g) : A0.map (·.block) = some g := by
  cases A0 with
  | none => cases h
  | some a => exact h
theorem wp_append_run {ts : TypeId} {o : Oper} {a : Act} {w : World} {K : Act → World → Prop} {Q : Exit → Act → World → Prop} (s x : Operand) (ho : o.op = .call { callee := .builtin .append, args := #[s, x], argTypes := #[ts, ts] })
    (v u r : Value) (hs : a.eval s = v) (hx : a.eval x = u) (w' : World) (hrun : (Builtin.append_ #[ts, ts] o.type #[v, u]).run Try.prog w = .ok r w') (h : K (a.put o.dst r) w') : o.wp Try.prog a w K Q := by
  unfold Oper.wp
  simp only [execOp, ho, resolve, invoke, builtin, Sem.run_bind, Sem.run_pure, Result.andThen_ok, List.map_toArray, List.map_cons, List.map_nil, hs, hx, hrun]
  exact h
theorem step_of {w : World} {ops : Array Oper} {o : Oper} {a : Act} {K : Act → World → Prop} {Q : Exit → Act → World → Prop} {E : Prop} (hgd : o.guard = none) (h : Oper.wp Try.prog o a w K Q) :
    if Region.wanted o (yielded ops a.tmps) = true then Oper.wp Try.prog o a w K Q else E := by
  have hw : Region.wanted o (yielded ops a.tmps) = true := by simp [Region.wanted, hgd]
  rw [if_pos hw]; exact h
set_option maxRecDepth 100000 in
/-- Appending, in a region that draws. -/
theorem step_e (E : Enc enc k) {ts te : TypeId} {by_ : Nat} (hts : Try.prog.underlying ts = some (.slice te)) (hte : (Try.prog.info? te).map (fun i => (i.zero.isSome, i.zero.map (fun z => z.cells.size), i.size, i.bytes)) = some (true, some k, k, by_)) (hby : by_ ≤ 1000000)
    {w : World} {ops : Array Oper} {o : Oper} {a : Act} {K : Act → World → Prop} {Q : Exit → Act → World → Prop} {F : Prop} (hgd : o.guard = none) (s x : Operand) (ho : o.op = .call { callee := .builtin .append, args := #[s, x], argTypes := #[ts, ts] })
    (n : Nat) (A0 : Option Addr) (c0 : Nat) (X : List α) (hs : a.eval s = .slice A0 X.length c0) (ht : OwnE enc k w n te A0 c0 X)
    (A : Option Addr) (c : Nat) (M : List α) (hx : a.eval x = .slice A M.length c) (hM : EAt enc k w A c M) (hn : A = none → c = 0) (hlen : X.length + M.length ≤ 100000) (hb : n ≤ w.heap.size)
    (h : ∀ A' c' w', OwnE enc k w' n te A' c' (X ++ M) → Below n w w' → K (a.put o.dst (.slice A' (X ++ M).length c')) w') :
    if Region.wanted o (yielded ops a.tmps) = true then Oper.wp Try.prog o a w K Q else F := by
  obtain ⟨A', c', w', hrun, h1, h2, _⟩ := run_append_e E hts hte hby w o.type n A0 c0 X ht A c M hM hn hlen hb
  have hbel : Below n w w' := below_grown h2 hb fun g e => ((OwnE.at E ht).2 g (own_blk e)).1
  exact step_of hgd (wp_append_run s x ho _ _ _ hs hx w' hrun (h A' c' w' h1 hbel))
set_option maxRecDepth 100000 in
/-- The same, where the order is that of the text. -/
theorem wpList_e (E : Enc enc k) {ts te : TypeId} {by_ : Nat} (hts : Try.prog.underlying ts = some (.slice te)) (hte : (Try.prog.info? te).map (fun i => (i.zero.isSome, i.zero.map (fun z => z.cells.size), i.size, i.bytes)) = some (true, some k, k, by_)) (hby : by_ ≤ 1000000)
    {w : World} {ops : Array Oper} {rest : List Oper} {o : Oper} {a : Act} {Q : Exit → Act → World → Prop} (hgd : o.guard = none) (s x : Operand) (ho : o.op = .call { callee := .builtin .append, args := #[s, x], argTypes := #[ts, ts] })
    (n : Nat) (A0 : Option Addr) (c0 : Nat) (X : List α) (hs : a.eval s = .slice A0 X.length c0) (ht : OwnE enc k w n te A0 c0 X)
    (A : Option Addr) (c : Nat) (M : List α) (hx : a.eval x = .slice A M.length c) (hM : EAt enc k w A c M) (hn : A = none → c = 0) (hlen : X.length + M.length ≤ 100000) (hb : n ≤ w.heap.size)
    (h : ∀ A' c' w', OwnE enc k w' n te A' c' (X ++ M) → Below n w w' → (∀ g, g < w.heap.size → A0.map (·.block) ≠ some g → w'.heap[g]? = w.heap[g]?) → (A'.map (·.block) = A0.map (·.block) ∨ A'.map (·.block) = some w.heap.size) → wpList Try.prog ops Q rest (a.put o.dst (.slice A' (X ++ M).length c')) w') : wpList Try.prog ops Q (o :: rest) a w := by
  obtain ⟨A', c', w', hrun, h1, h2, h3⟩ := run_append_e E hts hte hby w o.type n A0 c0 X ht A c M hM hn hlen hb
  have hbel : Below n w w' := below_grown h2 hb fun g e => ((OwnE.at E ht).2 g (own_blk e)).1
  exact wpList_plain hgd fun _ hK => wp_append_run s x ho _ _ _ hs hx w' hrun (hK _ _ (h A' c' w' h1 hbel (fun g hg hne => h2.block g hg fun e => hne (own_blk e.symm)) h3))
end

/-! Uses and gaps. -/
abbrev eu (u : PU) : List Value := [.int .i64 u.p, .int .i64 u.f, .int .i64 u.t]
theorem EU : Enc eu 3 := ⟨by omega, fun _ => rfl, fun x u h => by
  simp only [List.mem_cons, List.not_mem_nil, or_false] at h
  rcases h with rfl | rfl | rfl <;> rfl⟩
theorem uat_e {w : World} {A : Option Addr} {c : Nat} {L : List PU} : UAt w A c L ↔ EAt eu 3 w A c L := by
  constructor
  · rintro ⟨h1, h2, h3⟩
    refine ⟨h1, h2, fun j x hx => ?_⟩
    obtain ⟨g, o, hA, hg, d0, d1, d2⟩ := h3 j x hx
    refine ⟨g, o, hA, hg, fun i v hi hv => ?_⟩
    match i, hi with
    | 0, _ => simp at hv; rw [← hv]; exact d0
    | 1, _ => simp at hv; rw [← hv]; exact d1
    | 2, _ => simp at hv; rw [← hv]; exact d2
  · rintro ⟨h1, h2, h3⟩
    refine ⟨h1, h2, fun j x hx => ?_⟩
    obtain ⟨g, o, hA, hg, d⟩ := h3 j x hx
    exact ⟨g, o, hA, hg, d 0 _ (by omega) rfl, d 1 _ (by omega) rfl, d 2 _ (by omega) rfl⟩
theorem use_info : (Try.prog.info? 86).map (fun i => (i.zero.isSome, i.zero.map (fun z => z.cells.size), i.size, i.bytes)) = some (true, some 3, 3, 24) := by kernel_rfl
theorem gap_info : (Try.prog.info? 66).map (fun i => (i.zero.isSome, i.zero.map (fun z => z.cells.size), i.size, i.bytes)) = some (true, some 3, 3, 24) := by kernel_rfl
end Py
end Go.Proofs.Ytnkkhbmbbkmfhaa
