/- Slices of any elements of some cells: how they lie, how they are appended. Rows of integers, of numbers. Rows of samples, of steps. Area: what it answers. The quantile: by trying, and by sorting. The choices that the reference tries: where they begin. -/
import Derived.Test.YtionocafkaemiaaDoorK1
import Derived.Test.YtionocafkaemiaaDoorProg
import Derived.Laws.AppendOwn
import Derived.Laws.AppendOwnNone
import Derived.Deep.AppendLies
import Derived.Deep.RegionLaw
import Derived.Deep.RegionHeld3
import Derived.Maps.AppendAt
import Derived.Laws.MakeOwn
import Derived.Laws.OwnMore
import Derived.OwnWalk
import Derived.Test.YtionocafkaemiaaDoorK0
namespace Go.Proofs.YtionocafkaemiaaDoor
open Go.RowKit
namespace Sx

/-- An element's cells. -/
structure Enc {α : Type} (enc : α → List Value) (k : Nat) : Prop where
  pos : 0 < k
  len : ∀ x, (enc x).length = k
  one : ∀ x u, u ∈ enc x → u.oneCell' = true
section
variable {α : Type} {enc : α → List Value} {k : Nat}
def ce (enc : α → List Value) (L : List α) : List Value := L.flatMap enc
theorem ce_len (E : Enc enc k) : ∀ L : List α, (ce enc L).length = L.length * k
  | [] => by simp [ce]
  | x :: L => by
    have ih := ce_len E L
    unfold ce at *
    rw [List.flatMap_cons, List.length_append, E.len, ih, List.length_cons, Nat.succ_mul]; omega
theorem ce_add (L M : List α) : ce enc (L ++ M) = ce enc L ++ ce enc M := by unfold ce; rw [List.flatMap_append]
theorem ce_one (E : Enc enc k) (L : List α) : ∀ u ∈ ce enc L, u.oneCell' = true := by
  intro u hu
  unfold ce at hu
  obtain ⟨x, _, h⟩ := List.mem_flatMap.1 hu
  exact E.one x u h
theorem ce_get (E : Enc enc k) : ∀ {L : List α} {j : Nat} {x : α}, L[j]? = some x → ∀ {i : Nat}, i < k → (ce enc L)[j * k + i]? = (enc x)[i]?
  | [], j, x, h, i, _ => by simp at h
  | y :: L, 0, x, h, i, hi => by
    have e : y = x := by simpa using h
    subst e
    unfold ce
    rw [List.flatMap_cons, Nat.zero_mul, Nat.zero_add, List.getElem?_append_left (by rw [E.len]; exact hi)]
  | y :: L, j + 1, x, h, i, hi => by
    have h' : L[j]? = some x := by simpa using h
    have ih := ce_get E h' hi
    unfold ce at *
    rw [List.flatMap_cons, List.getElem?_append_right (by rw [E.len, Nat.succ_mul]; omega), E.len]
    rw [← ih]; congr 1; rw [Nat.succ_mul]; omega
theorem ce_at (E : Enc enc k) {L : List α} {n : Nat} (h : n < L.length * k) : ∃ j i x, n = j * k + i ∧ i < k ∧ L[j]? = some x := by
  have hp := E.pos
  refine ⟨n / k, n % k, ?_⟩
  have h1 : n / k < L.length := Nat.div_lt_of_lt_mul (by rw [Nat.mul_comm]; exact h)
  refine ⟨_, ?_, Nat.mod_lt _ hp, List.getElem?_eq_getElem h1⟩
  rw [Nat.mul_comm]; exact (Nat.div_add_mod n k).symm
/-- A slice of elements that lies somewhere. -/
def EAt (enc : α → List Value) (k : Nat) (w : World) (A : Option Addr) (c : Nat) (L : List α) : Prop :=
  L.length ≤ c ∧ c ≤ maxLen ∧ ∀ (j : Nat) (x : α), L[j]? = some x → ∃ g o, A = some ⟨g, o, none⟩ ∧ g < w.heap.size ∧ ∀ i v, i < k → (enc x)[i]? = some v → w.cell? ⟨g, o + j * k + i, none⟩ = some v
theorem EAt.keep {w w' : World} {A : Option Addr} {c : Nat} {L : List α} (h : EAt enc k w A c L) (hs : w.heap.size ≤ w'.heap.size) (hk : ∀ g, A.map (·.block) = some g → g < w.heap.size → w'.heap[g]? = w.heap[g]?) : EAt enc k w' A c L := by
  refine ⟨h.1, h.2.1, fun j x hx => ?_⟩
  obtain ⟨g, o, hA, hg, h1⟩ := h.2.2 j x hx
  have e := hk g (by rw [hA]; rfl) hg
  exact ⟨g, o, hA, by omega, fun i v hi hv => (World.cell?_of_block (a := ⟨g, _, none⟩) e).trans (h1 i v hi hv)⟩
theorem EAt.below {w w' : World} {n : Nat} {A : Option Addr} {c : Nat} {L : List α} (h : EAt enc k w A c L) (hb : Below n w w') (hn : w.heap.size ≤ n) : EAt enc k w' A c L :=
  h.keep hb.size fun g _ hg => hb.block g (by omega)
theorem EAt.take {w : World} {A : Option Addr} {c : Nat} {L : List α} (h : EAt enc k w A c L) (n c' : Nat) (hk : min n L.length ≤ c') (hc : c' ≤ maxLen) : EAt enc k w A c' (L.take n) :=
  ⟨by rw [List.length_take]; exact hk, hc, fun j x hx => by
    rw [List.getElem?_take] at hx
    split at hx
    · exact h.2.2 j x hx
    · cases hx⟩
theorem EAt.drop {w : World} {g o c n : Nat} {L : List α} (h : EAt enc k w (some ⟨g, o, none⟩) c L) (hk : n ≤ L.length) : EAt enc k w (some ⟨g, o + n * k, none⟩) (c - n) (L.drop n) := by
  have h1 := h.1
  have h2 := h.2.1
  refine ⟨by rw [List.length_drop]; omega, by omega, fun j x hx => ?_⟩
  rw [List.getElem?_drop] at hx
  obtain ⟨g', o', hA, hg, d⟩ := h.2.2 _ x hx
  injection hA with hA; injection hA with e1 e2
  subst e1; subst e2
  refine ⟨g, o + n * k, rfl, hg, fun i v hi hv => ?_⟩
  have := d i v hi hv
  rw [Nat.add_mul] at this
  rw [show o + n * k + j * k + i = o + (n * k + j * k) + i by omega]; exact this
theorem eat_nil (w : World) : EAt enc k w none 0 [] := ⟨Nat.le_refl _, Nat.zero_le _, fun j x hx => by simp at hx⟩
theorem EAt.addr (E : Enc enc k) {w : World} {ad : Addr} {c : Nat} {L : List α} (h : EAt enc k w (some ad) c L) : ∀ (j : Nat) (u : Value), (ce enc L)[j]? = some u → w.cell? (ad.add j) = some u := by
  intro j u hu
  have hj := (List.getElem?_eq_some_iff.1 hu).1
  rw [ce_len E] at hj
  obtain ⟨q, i, x, rfl, hi, hx⟩ := ce_at E hj
  rw [ce_get E hx hi] at hu
  obtain ⟨g, o, hA, _, d⟩ := h.2.2 q x hx
  injection hA with hA
  subst hA
  rw [add_plain, ← Nat.add_assoc]
  exact d i u hi hu
/-- A row of one's own. -/
abbrev OwnE (enc : α → List Value) (k : Nat) (w : World) (B T : Nat) (A : Option Addr) (c : Nat) (L : List α) : Prop := w.ownsRow B T k (.slice A L.length c) L.length (ce enc L)
theorem OwnE.at (E : Enc enc k) {w : World} {B T c : Nat} {A : Option Addr} {L : List α} (h : OwnE enc k w B T A c L) : EAt enc k w A c L ∧ ∀ g, A.map (·.block) = some g → B ≤ g ∧ g < w.heap.size := by
  rcases h.2 with ⟨hv, h0⟩ | ⟨g, cp, cur, hv, hB, hg, h1, h2, _⟩
  · injection hv with e1 e2 e3
    subst e1; subst e3
    exact ⟨⟨by omega, by unfold maxLen; omega, fun j x hx => by have := (List.getElem?_eq_some_iff.1 hx).1; omega⟩, fun g hg => by cases hg⟩
  · injection hv with e1 e2 e3
    subst e1; subst e3
    refine ⟨⟨h1, h2, fun j x hx => ?_⟩, fun g' hg' => ?_⟩
    · have hjl := (List.getElem?_eq_some_iff.1 hx).1
      refine ⟨g, 0, rfl, lt_of_heap hg, fun i v hi hvv => ?_⟩
      rw [← ce_get E hx hi] at hvv
      have := h.cells (g := g) rfl _ _ hvv
      rw [add_plain] at this
      rw [Nat.zero_add]; rw [Nat.zero_add] at this; exact this
    · injection hg' with hg'
      exact ⟨by rw [← hg']; exact hB, by rw [← hg']; exact lt_of_heap hg⟩
theorem OwnE.nil {w : World} {B T c : Nat} {A : Option Addr} {L : List α} (h : OwnE enc k w B T A c L) : A = none → c = 0 ∧ L = [] := by
  rintro rfl
  rcases h.2 with ⟨hv, h0⟩ | ⟨g, cp, cur, hv, _⟩
  · injection hv with e1 e2 e3
    exact ⟨e3, List.length_eq_zero_iff.1 h0⟩
  · injection hv with h1; cases h1
theorem owne_nil (w : World) (B T : Nat) : OwnE enc k w B T none 0 [] := ⟨by simp [ce], .inl ⟨rfl, rfl⟩⟩
theorem owne_new (w : World) (T : TypeId) : OwnE enc k (w.alloc (.cells #[] T)) w.heap.size T (some ⟨w.heap.size, 0, none⟩) 0 [] :=
  ⟨by simp [ce], .inr ⟨w.heap.size, 0, #[], rfl, Nat.le_refl _, by rw [heapAlloc, if_pos rfl], Nat.le_refl _, Nat.zero_le _, by simp, by simp [ce]⟩⟩
theorem owne_one (E : Enc enc k) (w : World) (T : TypeId) (x : α) (cs : Array Value) (hcs : cs.toList = enc x) : OwnE enc k (w.alloc (.cells cs T)) w.heap.size T (some ⟨w.heap.size, 0, none⟩) 1 [x] := by
  have hc : ce enc [x] = enc x := by simp [ce]
  have hl : cs.size = k := by rw [← Array.length_toList, hcs, E.len]
  refine ⟨by rw [hc, E.len]; simp, .inr ⟨w.heap.size, 1, cs, rfl, Nat.le_refl _, by rw [heapAlloc, if_pos rfl], Nat.le_refl _, by unfold maxLen; omega, by rw [hl]; simp, ?_⟩⟩
  rw [hc, hcs]
  exact List.take_of_length_le (by rw [E.len]; simp)
theorem grown_refl (w : World) (row : Option Nat) : w.grownBy w row := ⟨rfl, rfl, rfl, Nat.le_refl _, fun _ _ _ => rfl⟩
theorem below_grown {w w' : World} {v : Value} {n : Nat} (h : w.grownBy w' v.ownBlock) (hn : n ≤ w.heap.size) (hv : ∀ g, v.ownBlock = some g → n ≤ g) : Below n w w' :=
  ⟨h.os, h.tape, h.output, h.size, fun k hk => h.block k (by omega) fun e => by have := hv k e.symm; omega⟩
set_option maxRecDepth 100000 in
/-- Appending to a row of one's own, with the place of the result. -/
theorem run_append_e (E : Enc enc k) {ts te : TypeId} {by_ : Nat} (hts : Tryd.prog.underlying ts = some (.slice te)) (hte : (Tryd.prog.info? te).map (fun i => (i.zero.isSome, i.zero.map (fun z => z.cells.size), i.size, i.bytes)) = some (true, some k, k, by_)) (hby : by_ ≤ 1000000)
    (w : World) (ty : TypeId) (base : Nat) (A0 : Option Addr) (c0 : Nat) (X : List α) (hown : OwnE enc k w base te A0 c0 X)
    (A : Option Addr) (c : Nat) (M : List α) (hM : EAt enc k w A c M) (hn : A = none → c = 0) (hlen : X.length + M.length ≤ 100000) (hbase : base ≤ w.heap.size) :
    ∃ A' c' w', (Builtin.append_ #[ts, ts] ty #[.slice A0 X.length c0, .slice A M.length c]).run Tryd.prog w = .ok (.slice A' (X ++ M).length c') w' ∧ OwnE enc k w' base te A' c' (X ++ M) ∧ w.grownBy w' (Value.slice A0 X.length c0).ownBlock ∧ (A'.map (·.block) = A0.map (·.block) ∨ A'.map (·.block) = some w.heap.size) := by
  obtain ⟨i0, z0, hi0, hz0, hz1, hz2, hz3⟩ := info_open hte
  have hkp := E.pos
  cases A with
  | none =>
    obtain rfl := hn rfl
    have hM0 : M = [] := List.length_eq_zero_iff.1 (by have := hM.1; omega)
    subst hM0
    have hrun := run_append_owned_none (P := Tryd.prog) (w := w) base ts ty te i0 k hts hi0 _ X.length (ce enc X) hown
    rw [List.append_nil]
    exact ⟨A0, c0, w, hrun, hown, grown_refl _ _, .inl rfl⟩
  | some ad =>
    have hbb : (X.length + M.length) * by_ ≤ 100000 * 1000000 := Nat.mul_le_mul hlen hby
    obtain ⟨v', w', hr, h2, h3, _, h5⟩ := run_append_own_at (P := Tryd.prog) (w := w) base ts ty te i0 z0 k by_ hts hi0 hz0 hz1 hz2 hz3 (by omega) _ X.length (ce enc X) hown ad M.length c (ce enc M) (ce_len E M) (hM.addr E) (ce_one E M) (by unfold maxLen; omega) (by omega) hbase
    rw [← List.length_append, ← ce_add] at h2
    obtain ⟨A', c', rfl⟩ := row_own h2
    refine ⟨A', c', w', hr, h2, h3, ?_⟩
    cases A' with
    | none =>
      rcases h5 with h5 | h5
      · left
        cases A0 with
        | none => rfl
        | some a => cases h5
      · cases h5
    | some b =>
      rcases h5 with h5 | h5
      · left
        cases A0 with
        | none => cases h5
        | some a => exact h5
      · right; exact h5
theorem own_blk {A0 : Option Addr} {n c0 g : Nat} (h : (Value.slice A0 n c0).ownBlock = some g) : A0.map (·.block) = some g := by
  cases A0 with
  | none => cases h
  | some a => exact h
theorem wp_append_run {ts : TypeId} {o : Oper} {a : Act} {w : World} {K : Act → World → Prop} {Q : Exit → Act → World → Prop} (s x : Operand) (ho : o.op = .call { callee := .builtin .append, args := #[s, x], argTypes := #[ts, ts] })
    (v u r : Value) (hs : a.eval s = v) (hx : a.eval x = u) (w' : World) (hrun : (Builtin.append_ #[ts, ts] o.type #[v, u]).run Tryd.prog w = .ok r w') (h : K (a.put o.dst r) w') : o.wp Tryd.prog a w K Q := by
  unfold Oper.wp
  simp only [execOp, ho, resolve, invoke, builtin, Sem.run_bind, Sem.run_pure, Result.andThen_ok, List.map_toArray, List.map_cons, List.map_nil, hs, hx, hrun]
  exact h
theorem step_of {w : World} {ops : Array Oper} {o : Oper} {a : Act} {K : Act → World → Prop} {Q : Exit → Act → World → Prop} {E : Prop} (hgd : o.guard = none) (h : Oper.wp Tryd.prog o a w K Q) :
    if Region.wanted o (yielded ops a.tmps) = true then Oper.wp Tryd.prog o a w K Q else E := by
  have hw : Region.wanted o (yielded ops a.tmps) = true := by simp [Region.wanted, hgd]
  rw [if_pos hw]; exact h
set_option maxRecDepth 100000 in
/-- Appending, in a region that draws. -/
theorem step_e (E : Enc enc k) {ts te : TypeId} {by_ : Nat} (hts : Tryd.prog.underlying ts = some (.slice te)) (hte : (Tryd.prog.info? te).map (fun i => (i.zero.isSome, i.zero.map (fun z => z.cells.size), i.size, i.bytes)) = some (true, some k, k, by_)) (hby : by_ ≤ 1000000)
    {w : World} {ops : Array Oper} {o : Oper} {a : Act} {K : Act → World → Prop} {Q : Exit → Act → World → Prop} {F : Prop} (hgd : o.guard = none) (s x : Operand) (ho : o.op = .call { callee := .builtin .append, args := #[s, x], argTypes := #[ts, ts] })
    (n : Nat) (A0 : Option Addr) (c0 : Nat) (X : List α) (hs : a.eval s = .slice A0 X.length c0) (ht : OwnE enc k w n te A0 c0 X)
    (A : Option Addr) (c : Nat) (M : List α) (hx : a.eval x = .slice A M.length c) (hM : EAt enc k w A c M) (hn : A = none → c = 0) (hlen : X.length + M.length ≤ 100000) (hb : n ≤ w.heap.size)
    (h : ∀ A' c' w', OwnE enc k w' n te A' c' (X ++ M) → Below n w w' → K (a.put o.dst (.slice A' (X ++ M).length c')) w') :
    if Region.wanted o (yielded ops a.tmps) = true then Oper.wp Tryd.prog o a w K Q else F := by
  obtain ⟨A', c', w', hrun, h1, h2, _⟩ := run_append_e E hts hte hby w o.type n A0 c0 X ht A c M hM hn hlen hb
  have hbel : Below n w w' := below_grown h2 hb fun g e => ((OwnE.at E ht).2 g (own_blk e)).1
  exact step_of hgd (wp_append_run s x ho _ _ _ hs hx w' hrun (h A' c' w' h1 hbel))
set_option maxRecDepth 100000 in
/-- The same, where the order is that of the text. -/
theorem wpList_e (E : Enc enc k) {ts te : TypeId} {by_ : Nat} (hts : Tryd.prog.underlying ts = some (.slice te)) (hte : (Tryd.prog.info? te).map (fun i => (i.zero.isSome, i.zero.map (fun z => z.cells.size), i.size, i.bytes)) = some (true, some k, k, by_)) (hby : by_ ≤ 1000000)
    {w : World} {ops : Array Oper} {rest : List Oper} {o : Oper} {a : Act} {Q : Exit → Act → World → Prop} (hgd : o.guard = none) (s x : Operand) (ho : o.op = .call { callee := .builtin .append, args := #[s, x], argTypes := #[ts, ts] })
    (n : Nat) (A0 : Option Addr) (c0 : Nat) (X : List α) (hs : a.eval s = .slice A0 X.length c0) (ht : OwnE enc k w n te A0 c0 X)
    (A : Option Addr) (c : Nat) (M : List α) (hx : a.eval x = .slice A M.length c) (hM : EAt enc k w A c M) (hn : A = none → c = 0) (hlen : X.length + M.length ≤ 100000) (hb : n ≤ w.heap.size)
    (h : ∀ A' c' w', OwnE enc k w' n te A' c' (X ++ M) → Below n w w' → (∀ g, g < w.heap.size → A0.map (·.block) ≠ some g → w'.heap[g]? = w.heap[g]?) → (A'.map (·.block) = A0.map (·.block) ∨ A'.map (·.block) = some w.heap.size) → wpList Tryd.prog ops Q rest (a.put o.dst (.slice A' (X ++ M).length c')) w') : wpList Tryd.prog ops Q (o :: rest) a w := by
  obtain ⟨A', c', w', hrun, h1, h2, h3⟩ := run_append_e E hts hte hby w o.type n A0 c0 X ht A c M hM hn hlen hb
  have hbel : Below n w w' := below_grown h2 hb fun g e => ((OwnE.at E ht).2 g (own_blk e)).1
  exact wpList_plain hgd fun _ hK => wp_append_run s x ho _ _ _ hs hx w' hrun (hK _ _ (h A' c' w' h1 hbel (fun g hg hne => h2.block g hg fun e => hne (own_blk e.symm)) h3))
end

end Sx
end Go.Proofs.YtionocafkaemiaaDoor
namespace Go.Proofs.YtionocafkaemiaaDoor
open Go.RowKit
namespace Sx

abbrev enN (n : Nat) : List Value := [.int .i64 (n : Int)]
abbrev enI (n : Int) : List Value := [.int .i64 n]
theorem EN : Enc enN 1 := ⟨by omega, fun _ => rfl, fun x u h => by
  simp only [List.mem_cons, List.not_mem_nil, or_false] at h
  rw [h]; rfl⟩
theorem EI : Enc enI 1 := ⟨by omega, fun _ => rfl, fun x u h => by
  simp only [List.mem_cons, List.not_mem_nil, or_false] at h
  rw [h]; rfl⟩
theorem iat_I {w : World} {A : Option Addr} {c : Nat} {M : List Int} : IAt w A c M ↔ EAt enI 1 w A c M := by
  constructor
  · rintro ⟨h1, h2, h3⟩
    refine ⟨h1, h2, fun j x hx => ?_⟩
    obtain ⟨g, o, hA, hg, d0⟩ := h3 j x hx
    refine ⟨g, o, hA, hg, fun i v hi hv => ?_⟩
    have hi0 : i = 0 := by omega
    subst hi0
    simp at hv
    rw [← hv, Nat.mul_one]; exact d0
  · rintro ⟨h1, h2, h3⟩
    refine ⟨h1, h2, fun j x hx => ?_⟩
    obtain ⟨g, o, hA, hg, d⟩ := h3 j x hx
    have := d 0 _ (by omega) rfl
    rw [Nat.mul_one] at this
    exact ⟨g, o, hA, hg, this⟩
theorem iat_N {w : World} {A : Option Addr} {c : Nat} {K : List Nat} : IAt w A c (zs K) ↔ EAt enN 1 w A c K := by
  constructor
  · rintro ⟨h1, h2, h3⟩
    refine ⟨by rwa [List.length_map] at h1, h2, fun j x hx => ?_⟩
    obtain ⟨g, o, hA, hg, d0⟩ := h3 j x (zs_get hx)
    refine ⟨g, o, hA, hg, fun i v hi hv => ?_⟩
    have hi0 : i = 0 := by omega
    subst hi0
    simp at hv
    rw [← hv, Nat.mul_one]; exact d0
  · rintro ⟨h1, h2, h3⟩
    refine ⟨by rwa [List.length_map], h2, fun j x hx => ?_⟩
    rw [List.getElem?_map] at hx
    cases hk : K[j]? with
    | none => rw [hk] at hx; cases hx
    | some n =>
      rw [hk] at hx
      injection hx with hx
      obtain ⟨g, o, hA, hg, d⟩ := h3 j n hk
      have := d 0 _ (by omega) rfl
      rw [Nat.mul_one] at this
      exact ⟨g, o, hA, hg, by rw [← hx]; exact this⟩
theorem int_info : (Tryd.prog.info? 3).map (fun i => (i.zero.isSome, i.zero.map (fun z => z.cells.size), i.size, i.bytes)) = some (true, some 1, 1, 8) := by kernel_rfl
theorem i64_info : (Tryd.prog.info? 2).map (fun i => (i.zero.isSome, i.zero.map (fun z => z.cells.size), i.size, i.bytes)) = some (true, some 1, 1, 8) := by kernel_rfl
/-- A new row with one number in it. -/
theorem oneN (w : World) (T : TypeId) (n : Nat) : EAt enN 1 (w.alloc (.cells #[.int .i64 (n : Int)] T)) (some ⟨w.heap.size, 0, none⟩) 1 [n] := (OwnE.at EN (owne_one EN w T n _ rfl)).1
theorem oneI (w : World) (T : TypeId) (n : Int) : EAt enI 1 (w.alloc (.cells #[.int .i64 n] T)) (some ⟨w.heap.size, 0, none⟩) 1 [n] := (OwnE.at EI (owne_one EI w T n _ rfl)).1
end Sx
end Go.Proofs.YtionocafkaemiaaDoor
namespace Go.Proofs.YtionocafkaemiaaDoor
open Go.RowKit
namespace Sx

abbrev es (x : Sm) : List Value := [.int .i64 x.a, .int .i64 x.v]
abbrev esp (x : Sp) : List Value := [.int .i64 x.f, .int .i64 x.t, .int .i64 x.v]
theorem ES : Enc es 2 := ⟨by omega, fun _ => rfl, fun x u h => by
  simp only [List.mem_cons, List.not_mem_nil, or_false] at h
  rcases h with rfl | rfl <;> rfl⟩
theorem ESP : Enc esp 3 := ⟨by omega, fun _ => rfl, fun x u h => by
  simp only [List.mem_cons, List.not_mem_nil, or_false] at h
  rcases h with rfl | rfl | rfl <;> rfl⟩
theorem sample_info : (Tryd.prog.info? 49).map (fun i => (i.zero.isSome, i.zero.map (fun z => z.cells.size), i.size, i.bytes)) = some (true, some 2, 2, 16) := by kernel_rfl
theorem step_info : (Tryd.prog.info? 83).map (fun i => (i.zero.isSome, i.zero.map (fun z => z.cells.size), i.size, i.bytes)) = some (true, some 3, 3, 24) := by kernel_rfl
/-- A series that lies somewhere. -/
abbrev SAt (w : World) (A : Option Addr) (c : Nat) (L : List Sm) : Prop := EAt es 2 w A c L
theorem EAt.s2 {w : World} {A : Option Addr} {c : Nat} {L : List Sm} (h : EAt es 2 w A c L) {j : Nat} (hj : j < L.length) : ∃ g o, A = some ⟨g, o, none⟩ ∧ g < w.heap.size ∧ w.cell? ⟨g, o + j * 2, none⟩ = some (.int .i64 (sm L j).a) ∧ w.cell? ⟨g, o + j * 2 + 1, none⟩ = some (.int .i64 (sm L j).v) := by
  obtain ⟨g, o, hA, hg, d⟩ := h.2.2 j _ (sm_get hj)
  exact ⟨g, o, hA, hg, d 0 _ (by omega) rfl, d 1 _ (by omega) rfl⟩
theorem EAt.drew {α : Type} {enc : α → List Value} {k : Nat} {w : World} {A : Option Addr} {c : Nat} {L : List α} (h : EAt enc k w A c L) (q : Nat) : EAt enc k (w.drewN q) A c L := h
/-- The value of a series. -/
abbrev sv (A : Option Addr) (n c : Nat) : Value := .agg #[.slice A n c]
theorem two_at {W : World} {B T : Nat} {x0 x1 : Value} (h : W.heap[B]? = some (.cells #[x0, x1] T (0, 0))) : W.cell? ⟨B, 0, none⟩ = some x0 ∧ W.cell? ⟨B, 1, none⟩ = some x1 := by
  refine ⟨?_, ?_⟩ <;> (rw [cell_of_row _ _ _ _ _ _ h]; rfl)
theorem one_at {W : World} {B T : Nat} {x0 : Value} (h : W.heap[B]? = some (.cells #[x0] T (0, 0))) : W.cell? ⟨B, 0, none⟩ = some x0 := by rw [cell_of_row _ _ _ _ _ _ h]; rfl
theorem new_at (w : World) (o : Obj) : (w.alloc o).heap[w.heap.size]? = some o := by rw [heapAlloc, if_pos rfl]
end Sx
end Go.Proofs.YtionocafkaemiaaDoor
namespace Go.Proofs.YtionocafkaemiaaDoor
namespace Sx

theorem area_sz : (Tryd.prog.info? 31).map (·.size) = some 2 := by kernel_rfl
/-- Area. -/
def areaS (L : List Sm) (f t : Int) : Ar × Int := if askS L f t ≠ 0 then (⟨0, 0⟩, askS L f t) else (areaV (stepsV L f t), 0)
end Sx
end Go.Proofs.YtionocafkaemiaaDoor
namespace Go.Proofs.YtionocafkaemiaaDoor.Sx

/-- How long the value is at most so great. -/
def leV (q : Int) (M : List Sp) : Int := wS (fun v => if v ≤ q then 1 else 0) M
/-- What a quantile is: the least value that is enough. -/
structure IsQ (M : List Sp) (K den v : Int) : Prop where
  mem : ∃ x, x ∈ M ∧ x.v = v
  ge : K ≤ leV v M * den
  least : ∀ x, x ∈ M → x.v < v → leV x.v M * den < K
theorem IsQ.unique {M : List Sp} {K den v w : Int} (h : IsQ M K den v) (h2 : IsQ M K den w) : v = w := by
  obtain ⟨x, hx, rfl⟩ := h.mem
  obtain ⟨y, hy, rfl⟩ := h2.mem
  rcases Int.lt_trichotomy x.v y.v with h3 | h3 | h3
  · have := h2.least x hx h3; have := h.ge; omega
  · exact h3
  · have := h.least y hy h3; have := h2.ge; omega
/-- The reference's way. -/
def qStep (M : List Sp) (K den : Int) (best : Int) (x : Sp) : Int := if K ≤ leV x.v M * den ∧ (best < 0 ∨ x.v < best) then x.v else best
def quantR (M : List Sp) (K den : Int) : Int := M.foldl (qStep M K den) (-1)
theorem quantR_take {M : List Sp} (K den : Int) {k : Nat} (h : k < M.length) : (M.take (k + 1)).foldl (qStep M K den) (-1) = qStep M K den ((M.take k).foldl (qStep M K den) (-1)) (sp M k) := by
  rw [List.take_add_one, sp_get h, List.foldl_append]; rfl
theorem qfold {M : List Sp} {K den : Int} : ∀ (N : List Sp) (b : Int), (∀ x, x ∈ N → 0 ≤ x.v) → (b = -1 ∨ 0 ≤ b) →
    (N.foldl (qStep M K den) b = -1 ∧ b = -1 ∧ (∀ x, x ∈ N → leV x.v M * den < K)) ∨
    (0 ≤ N.foldl (qStep M K den) b ∧ (N.foldl (qStep M K den) b = b ∨ (∃ x, x ∈ N ∧ x.v = N.foldl (qStep M K den) b ∧ K ≤ leV x.v M * den)) ∧ (0 ≤ b → N.foldl (qStep M K den) b ≤ b) ∧ ∀ x, x ∈ N → x.v < N.foldl (qStep M K den) b → leV x.v M * den < K)
  | [], b, _, hb => by
    rcases hb with rfl | hb
    · exact .inl ⟨rfl, rfl, fun x hx => by cases hx⟩
    · exact .inr ⟨hb, .inl rfl, fun _ => Int.le_refl _, fun x hx => by cases hx⟩
  | x :: N, b, hv, hb => by
    have h0 := hv x (List.mem_cons_self ..)
    have hv2 := fun y hy => hv y (List.mem_cons_of_mem x hy)
    rw [List.foldl_cons]
    by_cases hc : K ≤ leV x.v M * den ∧ (b < 0 ∨ x.v < b)
    · have e : qStep M K den b x = x.v := by unfold qStep; rw [if_pos hc]
      rw [e]
      rcases qfold (M := M) (K := K) (den := den) N x.v hv2 (.inr h0) with ⟨_, h2, _⟩ | ⟨h1, h2, h3, h4⟩
      · omega
      · refine .inr ⟨h1, .inr ?_, fun hb0 => by have := h3 h0; omega, fun y hy hlt => ?_⟩
        · rcases h2 with h2 | ⟨y, hy, h5, h6⟩
          · exact ⟨x, List.mem_cons_self .., h2.symm, hc.1⟩
          · exact ⟨y, List.mem_cons_of_mem _ hy, h5, h6⟩
        · rcases List.mem_cons.1 hy with rfl | hy
          · have := h3 h0; omega
          · exact h4 y hy hlt
    · have e : qStep M K den b x = b := by unfold qStep; rw [if_neg hc]
      rw [e]
      rcases qfold (M := M) (K := K) (den := den) N b hv2 hb with ⟨h1, h2, h3⟩ | ⟨h1, h2, h3, h4⟩
      · refine .inl ⟨h1, h2, fun y hy => ?_⟩
        rcases List.mem_cons.1 hy with rfl | hy
        · have : ¬ K ≤ leV y.v M * den := fun hk => hc ⟨hk, .inl (by omega)⟩
          omega
        · exact h3 y hy
      · refine .inr ⟨h1, ?_, h3, fun y hy hlt => ?_⟩
        · rcases h2 with h2 | ⟨y, hy, h5, h6⟩
          · exact .inl h2
          · exact .inr ⟨y, List.mem_cons_of_mem _ hy, h5, h6⟩
        · rcases List.mem_cons.1 hy with rfl | hy
          · have : ¬ K ≤ leV y.v M * den := fun hk => hc ⟨hk, by
              by_cases hb0 : b < 0
              · exact .inl hb0
              · have := h3 (by omega); right; omega⟩
            omega
          · exact h4 y hy hlt
theorem leV_top {M : List Sp} (_hM : ∀ x, x ∈ M → x.f ≤ x.t) {q : Int} (h : ∀ x, x ∈ M → x.v ≤ q) : leV q M = wS (fun _ => 1) M :=
  wS_congr fun x hx => by rw [if_pos (h x hx)]
theorem leV_mono {M : List Sp} (hM : ∀ x, x ∈ M → x.f ≤ x.t) {p q : Int} (h : p ≤ q) : leV p M ≤ leV q M :=
  wS_le fun x hx => ⟨hM x hx, by split <;> split <;> omega⟩
theorem max_ex : ∀ {M : List Sp}, 0 < M.length → ∃ x, x ∈ M ∧ ∀ y, y ∈ M → y.v ≤ x.v
  | [], h => by simp at h
  | [x], _ => ⟨x, by simp, fun y hy => by simp at hy; rw [hy]; exact Int.le_refl _⟩
  | x :: y :: M, _ => by
    obtain ⟨z, hz, h⟩ := max_ex (M := y :: M) (by simp)
    by_cases hx : z.v ≤ x.v
    · exact ⟨x, List.mem_cons_self .., fun w hw => by
        rcases List.mem_cons.1 hw with rfl | hw
        · exact Int.le_refl _
        · have := h w hw; omega⟩
    · exact ⟨z, List.mem_cons_of_mem _ hz, fun w hw => by
        rcases List.mem_cons.1 hw with rfl | hw
        · omega
        · exact h w hw⟩
/-- What is asked can be had. -/
structure QOk (M : List Sp) (K den : Int) : Prop where
  pos : 0 < M.length
  ok : ∀ x, x ∈ M → x.f < x.t ∧ 0 ≤ x.v
  d0 : 0 ≤ den
  K : K ≤ wS (fun _ => 1) M * den
theorem quantR_is {M : List Sp} {K den : Int} (h : QOk M K den) : IsQ M K den (quantR M K den) := by
  obtain ⟨x, hx, hmax⟩ := max_ex h.pos
  have htop := leV_top (fun y hy => Int.le_of_lt (h.ok y hy).1) hmax
  have hK := h.K
  unfold quantR
  rcases qfold (M := M) (K := K) (den := den) M (-1) (fun y hy => (h.ok y hy).2) (.inl rfl) with ⟨_, _, h3⟩ | ⟨h1, h2, _, h4⟩
  · have := h3 x hx
    rw [htop] at this; omega
  · rcases h2 with h2 | ⟨y, hy, h5, h6⟩
    · omega
    · exact ⟨⟨y, hy, h5⟩, by rw [← h5]; exact h6, h4⟩

/-! The program's way: pairs of value and length, sorted by value. -/
abbrev Pr := Int × Int
def prs (M : List Sp) : List Pr := M.map fun x => (x.v, x.t - x.f)
/-- How long the first pairs are. -/
def cumP (N : List Pr) : Int := (N.map fun x => x.2).sum
theorem cum_take {N : List Pr} {k : Nat} {u : Pr} (h : N[k]? = some u) : cumP (N.take (k + 1)) = cumP (N.take k) + u.2 := by
  unfold cumP
  rw [List.take_add_one, h]
  simp
/-- Sums over pairs. -/
def wP (g : Int → Int) (N : List Pr) : Int := (N.map fun x => g x.1 * x.2).sum
theorem wP_prs (g : Int → Int) (M : List Sp) : wP g (prs M) = wS g M := by unfold wP prs wS; rw [List.map_map]; rfl
theorem wP_perm (g : Int → Int) {N O : List Pr} (h : N.Perm O) : wP g N = wP g O := by
  unfold wP
  induction h with
  | nil => rfl
  | cons x _ ih => rw [List.map_cons, List.map_cons, List.sum_cons, List.sum_cons, ih]
  | swap x y l => simp only [List.map_cons, List.sum_cons]; omega
  | trans _ _ h1 h2 => rw [h1, h2]
theorem wP_app (g : Int → Int) (N O : List Pr) : wP g (N ++ O) = wP g N + wP g O := by unfold wP; rw [List.map_append, List.sum_append]
theorem wP_nn {g : Int → Int} (hg : ∀ v, 0 ≤ g v) : ∀ {N : List Pr}, (∀ x, x ∈ N → 0 ≤ x.2) → 0 ≤ wP g N
  | [], _ => Int.le_refl _
  | x :: N, h => by
    have e : wP g (x :: N) = g x.1 * x.2 + wP g N := by unfold wP; rw [List.map_cons, List.sum_cons]
    have := wP_nn hg fun y hy => h y (List.mem_cons_of_mem _ hy)
    have := Int.mul_nonneg (hg x.1) (h x (List.mem_cons_self ..))
    omega
theorem wP_congr {g h : Int → Int} : ∀ {N : List Pr}, (∀ x, x ∈ N → g x.1 = h x.1) → wP g N = wP h N
  | [], _ => rfl
  | x :: N, hx => by
    have e : ∀ k : Int → Int, wP k (x :: N) = k x.1 * x.2 + wP k N := fun k => by unfold wP; rw [List.map_cons, List.sum_cons]
    rw [e, e, hx x (List.mem_cons_self ..), wP_congr fun y hy => hx y (List.mem_cons_of_mem _ hy)]
theorem wP_one (N : List Pr) : wP (fun _ => 1) N = cumP N := by unfold wP cumP; simp
theorem wP_zero (N : List Pr) : wP (fun _ => 0) N = 0 := by
  unfold wP
  induction N with
  | nil => rfl
  | cons x N ih => rw [List.map_cons, List.sum_cons, ih]; simp
/-- The first place at which it is enough has the quantile. -/
theorem sorted_is {M : List Sp} {K den : Int} (h : QOk M K den) {N : List Pr} (hp : N.Perm (prs M)) (hs : N.Pairwise fun x y => x.1 ≤ y.1) {k : Nat} {u : Pr} (hu : N[k]? = some u)
    (hge : K ≤ cumP (N.take (k + 1)) * den) (hlt : ∀ j, j ≤ k → cumP (N.take j) * den < K) : IsQ M K den u.1 := by
  have hle : ∀ q, leV q M = wP (fun v => if v ≤ q then 1 else 0) N := fun q => by unfold leV; rw [← wP_prs, wP_perm _ hp]
  have hlen : ∀ x, x ∈ N → 0 ≤ x.2 := fun x hx => by
    obtain ⟨y, hy, rfl⟩ := List.mem_map.1 (hp.mem_iff.1 hx)
    have := (h.ok y hy).1
    dsimp only; omega
  have hget : ∀ {i j : Nat} {x y : Pr}, N[i]? = some x → N[j]? = some y → i ≤ j → x.1 ≤ y.1 := fun {i j x y} hi hj hij => by
    obtain ⟨h1, rfl⟩ := List.getElem?_eq_some_iff.1 hi
    obtain ⟨h2, rfl⟩ := List.getElem?_eq_some_iff.1 hj
    rcases Nat.lt_or_ge i j with h3 | h3
    · exact (List.pairwise_iff_getElem.1 hs) i j h1 h2 h3
    · obtain rfl : i = j := by omega
      exact Int.le_refl _
  obtain ⟨hk, hku⟩ := List.getElem?_eq_some_iff.1 hu
  have hden := h.d0
  have hum : u ∈ prs M := hp.mem_iff.1 (List.mem_of_getElem? hu)
  refine ⟨?_, ?_, ?_⟩
  · obtain ⟨y, hy, rfl⟩ := List.mem_map.1 hum
    exact ⟨y, hy, rfl⟩
  · have h1 : cumP (N.take (k + 1)) ≤ leV u.1 M := by
      rw [hle, ← List.take_append_drop (k + 1) N, wP_app, List.take_append_drop]
      have e : wP (fun v => if v ≤ u.1 then 1 else 0) (N.take (k + 1)) = cumP (N.take (k + 1)) := by
        rw [← wP_one]
        refine wP_congr fun x hx => ?_
        obtain ⟨i, hi, hix⟩ := List.mem_iff_getElem.1 hx
        rw [List.length_take] at hi
        rw [List.getElem_take] at hix
        have := hget (i := i) (j := k) (x := x) (y := u) (by rw [List.getElem?_eq_getElem (by omega), hix]) hu (by omega)
        rw [if_pos this]
      have := wP_nn (g := fun v => if v ≤ u.1 then 1 else 0) (fun v => by split <;> omega) (N := N.drop (k + 1)) fun x hx => hlen x (List.mem_of_mem_drop hx)
      omega
    have := Int.mul_le_mul_of_nonneg_right h1 hden
    omega
  · intro y hy hlt2
    -- the pairs of at most this value all stand ahead of k
    have hym : (y.v, y.t - y.f) ∈ N := hp.mem_iff.2 (List.mem_map.2 ⟨y, hy, rfl⟩)
    have h1 : leV y.v M ≤ cumP (N.take k) := by
      rw [hle]
      have e : wP (fun v => if v ≤ y.v then 1 else 0) (N.drop k) = 0 := by
        refine (wP_congr (h := fun _ => 0) fun x hx => ?_).trans (wP_zero _)
        obtain ⟨i, hi, hix⟩ := List.mem_iff_getElem.1 hx
        rw [List.length_drop] at hi
        rw [List.getElem_drop] at hix
        have := hget (i := k) (j := k + i) (x := u) (y := x) hu (by rw [List.getElem?_eq_getElem (by omega), hix]) (by omega)
        rw [if_neg (by omega)]
      have e2 : wP (fun v => if v ≤ y.v then 1 else 0) N = wP (fun v => if v ≤ y.v then 1 else 0) (N.take k) + wP (fun v => if v ≤ y.v then 1 else 0) (N.drop k) := by rw [← wP_app, List.take_append_drop]
      rw [e2, e, Int.add_zero, ← wP_one]
      unfold wP
      have : ∀ O : List Pr, (∀ x, x ∈ O → 0 ≤ x.2) → (O.map fun x : Pr => (if x.1 ≤ y.v then 1 else 0) * x.2).sum ≤ (O.map fun x : Pr => 1 * x.2).sum := by
        intro O
        induction O with
        | nil => intro _; exact Int.le_refl _
        | cons x O ih =>
          intro hO
          rw [List.map_cons, List.map_cons, List.sum_cons, List.sum_cons]
          have := ih fun z hz => hO z (List.mem_cons_of_mem _ hz)
          have := hO x (List.mem_cons_self ..)
          split <;> omega
      exact this _ fun x hx => hlen x (List.mem_of_mem_take hx)
    have := Int.mul_le_mul_of_nonneg_right h1 hden
    have := hlt k (Nat.le_refl _)
    omega
/-- Somewhere it is enough. -/
theorem sorted_all {M : List Sp} {K den : Int} (h : QOk M K den) {N : List Pr} (hp : N.Perm (prs M)) : K ≤ cumP N * den := by
  rw [← wP_one, wP_perm _ hp, wP_prs]; exact h.K
theorem leV_snoc (q : Int) (M : List Sp) (x : Sp) : leV q (M ++ [x]) = leV q M + (if x.v ≤ q then x.t - x.f else 0) := by
  unfold leV
  rw [wS_app, wS_cons, wS_nil]
  split <;> simp
theorem leV_take (q : Int) {M : List Sp} {k : Nat} (h : k < M.length) : leV q (M.take (k + 1)) = leV q (M.take k) + (if (sp M k).v ≤ q then (sp M k).t - (sp M k).f else 0) := by
  rw [List.take_add_one, sp_get h]; exact leV_snoc q _ _
theorem leV_bd {f t : Int} {M : List Sp} (h : ∀ x, x ∈ M → OkP f t x) (hf : 0 ≤ f) (ht : t ≤ 1000000000000) (q : Int) : ∀ k, k ≤ M.length → 0 ≤ leV q (M.take k) ∧ leV q (M.take k) ≤ (k : Int) * 1000000000000
  | 0, _ => by simp [leV, wS_nil]
  | k + 1, hk => by
    have h1 := leV_bd h hf ht q k (by omega)
    have hx := h _ (sp_mem (show k < M.length by omega))
    have := hx.f0; have := hx.ft; have := hx.t1
    rw [leV_take q (by omega)]
    split <;> omega
/-- Quantile. -/
def quantS (L : List Sm) (f t num den : Int) : Int × Int := if askS L f t ≠ 0 then (0, askS L f t) else if num < 1 ∨ den < num ∨ 1000 < den then (0, 2) else (quantR (stepsV L f t) (num * (t - f)) den, 0)
theorem quant_ok {L : List Sm} {f t num den : Int} (h : Cov L f t) (h1 : 1 ≤ num) (h2 : num ≤ den) : QOk (stepsV L f t) (num * (t - f)) den := by
  refine ⟨steps_pos h, fun x hx => ?_, by omega, ?_⟩
  · have hx := steps_ok h.ok x hx
    exact ⟨hx.ft, hx.v0⟩
  · rw [steps_len1 h, Int.mul_comm]
    exact Int.mul_le_mul_of_nonneg_left h2 (by have := h.ft; omega)
end Go.Proofs.YtionocafkaemiaaDoor.Sx
namespace Go.Proofs.YtionocafkaemiaaDoor.Sx

/-- The best one so far, as a series. -/
def boS (L : List Sm) : Option (List Nat) → List Sm
  | none => []
  | some b => overS L b
/-- Starts of runs, the first one at the beginning, all ahead of the last k samples. -/
def Beg (L : List Sm) (k : Nat) (l : List Nat) : Prop := ∃ t, l = 0 :: t ∧ t.Pairwise (· < ·) ∧ ∀ e, e ∈ t → 0 < e ∧ e < L.length - k
theorem Beg.next {L : List Sm} {k : Nat} {l : List Nat} (h : Beg L (k + 1) l) (hk : k + 1 < L.length) : Beg L k (l ++ [L.length - (k + 1)]) ∧ Beg L k l := by
  obtain ⟨t, rfl, h1, h2⟩ := h
  refine ⟨⟨t ++ [L.length - (k + 1)], rfl, ?_, fun e he => ?_⟩, t, rfl, h1, fun e he => by have := h2 e he; omega⟩
  · rw [List.pairwise_append]
    refine ⟨h1, by simp, fun e he f hf => ?_⟩
    rw [List.mem_singleton] at hf
    have := h2 e he; omega
  · rcases List.mem_append.1 he with he | he
    · have := h2 e he; omega
    · rw [List.mem_singleton] at he; omega
theorem Beg.ext {L : List Sm} {k : Nat} {l : List Nat} (h : Beg L k l) (hn : 0 < L.length) : Ext L.length (L.length - 1) [0] l := by
  obtain ⟨t, rfl, h1, h2⟩ := h
  exact ⟨t, rfl, h1, fun e he => by have := h2 e he; omega⟩
theorem Beg.more {L : List Sm} {k : Nat} {l r : List Nat} (h : Beg L k l) (hk : k < L.length) (hx : Ext L.length k l r) : Ext L.length (L.length - 1) [0] r := by
  obtain ⟨t, rfl, h1, h2⟩ := h
  obtain ⟨s, rfl, h3, h4⟩ := hx
  refine ⟨t ++ s, by simp, ?_, fun e he => ?_⟩
  · rw [List.pairwise_append]
    exact ⟨h1, h3, fun e he f hf => by have := h2 e he; have := h4 f hf; omega⟩
  · rcases List.mem_append.1 he with he | he
    · have := h2 e he; omega
    · have := h4 e he; omega
theorem Beg.len {L : List Sm} {k : Nat} {l : List Nat} (h : Beg L k l) (hn : 0 < L.length) : 0 < l.length ∧ l.length ≤ L.length := by
  refine ⟨?_, (starts_of hn (h.ext hn)).len⟩
  obtain ⟨t, rfl, _⟩ := h
  simp
/-- The best one so far is a choice. -/
def BoOk (L : List Sm) (b : Option (List Nat)) : Prop := ∀ x, b = some x → Ext L.length (L.length - 1) [0] x
theorem choose_bo {L : List Sm} {u : Int} {most k : Nat} {l : List Nat} {b : Option (List Nat)} (h : Beg L k l) (hk : k < L.length) (hb : BoOk L b) : BoOk L (chooseV (areaL L u) L.length most k l b) := by
  intro x hx
  rcases (choose_spec (c := areaL L u) (n := L.length) (most := most) (k := k) (l := l) (best := b) (by omega)).2.1 with h1 | ⟨r, h1, h2, _⟩
  · rw [h1] at hx; exact hb x hx
  · rw [h1] at hx; injection hx with hx; subst hx
    exact h.more hk h2
theorem bo_len {L : List Sm} {b : Option (List Nat)} (hb : BoOk L b) (hn : 0 < L.length) : (boS L b).length ≤ L.length ∧ ((boS L b).length = 0 ↔ b = none) := by
  cases b with
  | none => exact ⟨Nat.zero_le _, by simp [boS]⟩
  | some x =>
    have h := hb x rfl
    have h1 := (starts_of hn h).len
    obtain ⟨t, rfl, _⟩ := h
    refine ⟨by show (overS L _).length ≤ _; rw [over_len]; exact h1, ?_⟩
    show (overS L _).length = 0 ↔ _
    rw [over_len]; simp
/-- What is at a leaf. -/
theorem choose_leaf {L : List Sm} {u : Int} (h : OkE L u) (hn : 0 < L.length) {l : List Nat} {b : Option (List Nat)} (hl : Beg L 0 l) (hb : BoOk L b) {most : Nat} (hm : l.length ≤ most) :
    chooseV (areaL L u) L.length most 0 l b = if ((boS L b).length = 0 ∨ beforeV u (overS L l) (boS L b) = true) then some l else b := by
  unfold chooseV
  rw [if_neg (by omega)]
  cases b with
  | none => simp [boS]
  | some x =>
    have hx := hb x rfl
    have h1 : ¬ (boS L (some x)).length = 0 := fun e => by have := (bo_len hb hn).2.1 e; cases this
    show (if pref (areaL L u) l x = true then some l else some x) = _
    rw [show boS L (some x) = overS L x from rfl] at h1 ⊢
    rw [before_pref h hn (hl.ext hn) hx]
    simp [h1]
end Go.Proofs.YtionocafkaemiaaDoor.Sx
