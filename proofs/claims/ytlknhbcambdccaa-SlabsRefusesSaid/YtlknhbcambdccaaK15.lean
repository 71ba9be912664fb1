/- step: what it leaves; Alloc. How a cache lies in memory. Caches: the small functions. holder: the slab that has an address. -/
import Derived.Test.YtlknhbcambdccaaK14
import Derived.Outline
import Derived.Deep.QuietTactic
import Derived.BigQuiet
import Derived.Test.YtlknhbcambdccaaK1
import Derived.Deep.CutRange
namespace Go.Proofs.Ytlknhbcambdccaa
open Go.RowKit
namespace Bu

/-- A slice's block lies in the world, and is not the allocator's. -/
def Lies (w : World) (b : Nat) (A : Option Addr) : Prop := ∀ g, A.map (·.block) = some g → g < w.heap.size ∧ g ≠ b
theorem Lies.ne {w : World} {b : Nat} {A : Option Addr} (h : Lies w b A) : A.map (·.block) ≠ some b := fun e => (h b e).2 rfl

/-- What a call of both leaves. -/
def StepR (N : Nat) (w : World) (b : Nat) (A : Option Addr) (e : Ending) (w' : World) : Prop :=
  ∃ b' A' c' L', e = .returned (.tuple #[.pointer (some ⟨b', 0, none⟩), sv N A' (L' : List Blk).length c', .int .i64 0]) ∧ BuL w' b' N L' ∧ BlkAt w' A' c' L' ∧ Lies w' b' A' ∧ (b' = b ∨ w.heap.size ≤ b') ∧ (A' = A ∨ ∀ g, A'.map (·.block) = some g → w.heap.size ≤ g) ∧ Grow1 b w w'

theorem act_cells {w : World} {b T : Nat} {x y z : Value} (h : w.heap[b]? = some (.cells #[x, y, z] T (0, 0))) : w.cell? ⟨b, 0, none⟩ = some x ∧ w.cell? ⟨b, 1, none⟩ = some y ∧ w.cell? ⟨b, 2, none⟩ = some z := by
  refine ⟨?_, ?_, ?_⟩ <;> simp [World.cell?, h]
theorem heap_grow {b : Nat} {w1 w2 : World} (hg : Grow1 b w1 w2) {g : Nat} {o : Obj} (hne : g ≠ b) (h : w1.heap[g]? = some o) : w2.heap[g]? = some o := (hg.block g (lt_of_heap h) hne).trans h
/-- All but two blocks stay. -/
structure Tw (x y : Nat) (w w' : World) : Prop where
  os : w'.os = w.os
  tape : w'.tape = w.tape
  output : w'.output = w.output
  size : w.heap.size ≤ w'.heap.size
  block : ∀ k, k < w.heap.size → k ≠ x → k ≠ y → w'.heap[k]? = w.heap[k]?
theorem Tw.refl (x y : Nat) (w : World) : Tw x y w w := ⟨rfl, rfl, rfl, Nat.le_refl _, fun _ _ _ _ => rfl⟩
theorem Tw.setX {x y : Nat} {a b : World} (h : Tw x y a b) (o : Nat) (v : Value) : Tw x y a (b.setCell ⟨x, o, none⟩ v) :=
  ⟨h.os, h.tape, h.output, by rw [setCell_size]; exact h.size, fun k hk h1 h2 => (setCell_far _ _ _ _ h1).trans (h.block k hk h1 h2)⟩
theorem Tw.setY {x y : Nat} {a b : World} (h : Tw x y a b) (o : Nat) (v : Value) : Tw x y a (b.setCell ⟨y, o, none⟩ v) :=
  ⟨h.os, h.tape, h.output, by rw [setCell_size]; exact h.size, fun k hk h1 h2 => (setCell_far _ _ _ _ h2).trans (h.block k hk h1 h2)⟩
theorem Tw.alloc {x y : Nat} {a b : World} (h : Tw x y a b) (o : Obj) : Tw x y a (b.alloc o) :=
  ⟨h.os, h.tape, h.output, by have := h.size; simp; omega, fun k hk h1 h2 => (alloc_old _ _ _ (by have := h.size; omega)).trans (h.block k hk h1 h2)⟩
theorem Tw.drew {x y : Nat} {a b : World} (h : Tw x y a b) : Tw x y a b.drew := ⟨h.os, h.tape, h.output, h.size, h.block⟩
theorem Tw.below {x y : Nat} {a b c : World} (h : Tw x y a b) (hb : Below b.heap.size b c) : Tw x y a c :=
  ⟨hb.os.trans h.os, hb.tape.trans h.tape, hb.output.trans h.output, Nat.le_trans h.size hb.size, fun k hk h1 h2 => (hb.block k (by have := h.size; omega)).trans (h.block k hk h1 h2)⟩

theorem grow_of_below {b : Nat} {w w' : World} (h : Below w.heap.size w w') : Grow1 b w w' := ⟨h.os, h.tape, h.output, h.size, fun k hk _ => h.block k hk⟩

/-- How step ends where the state is as it was. -/
theorem step_same {w wk Wf : World} {b b' N c : Nat} {A : Option Addr} {L : List Blk} (hA : BlkAt w A c L) (hne : Lies w b A) (hb' : b' = b ∨ w.heap.size ≤ b') (hg : Below w.heap.size w wk) (hB : BuL wk b' N L) (hb : b < w.heap.size) (hx : b' ≠ w.heap.size ∧ b' ≠ w.heap.size + 1 + 1) (hT : Tw w.heap.size (w.heap.size + 1 + 1) wk Wf) :
    BuL Wf b' N L ∧ BlkAt Wf A c L ∧ Lies Wf b' A ∧ (b' = b ∨ w.heap.size ≤ b') ∧ (A = A ∨ ∀ g, A.map (·.block) = some g → w.heap.size ≤ g) ∧ Grow1 b w Wf := by
  have hgs := hg.size
  have hts := hT.size
  have hbf : Below w.heap.size w Wf := hg.trans ⟨hT.os, hT.tape, hT.output, hT.size, fun k hk => hT.block k (by omega) (by omega) (by omega)⟩
  refine ⟨hB.keep (hT.block b' hB.lt hx.1 hx.2), hA.below hbf, fun g e => ?_, hb', .inl rfl, grow_of_below hbf⟩
  have := hne g e
  exact ⟨by omega, by omega⟩

/-- How step ends: the boxes are written. -/
theorem step_fin {w w4 w5 Wf : World} {b N c c' : Nat} {A A' : Option Addr} {L L1 : List Blk} (hA : BlkAt w A c L) (hne : Lies w b A) (hb : b < w.heap.size) (hN : NewS w4 w5 A c L A' c' L1) (h4 : w.heap.size + 3 ≤ w4.heap.size)
    (hg : Grow1 b w w5) (hB : BuL w5 b N L1) (hT : Tw w.heap.size (w.heap.size + 1 + 1) w5 Wf) :
    BuL Wf b N L1 ∧ BlkAt Wf A' c' L1 ∧ Lies Wf b A' ∧ (b = b ∨ w.heap.size ≤ b) ∧ (A' = A ∨ ∀ g, A'.map (·.block) = some g → w.heap.size ≤ g) ∧ Grow1 b w Wf := by
  have hgf : Grow1 b w Wf := ⟨hT.os.trans hg.os, hT.tape.trans hg.tape, hT.output.trans hg.output, Nat.le_trans hg.size hT.size, fun k hk hn => (hT.block k (by have := hg.size; omega) (by omega) (by omega)).trans (hg.block k hk hn)⟩
  refine ⟨hB.keep (hT.block b hB.lt (by omega) (by omega)), ?_, ?_, .inl rfl, ?_, hgf⟩
  · rcases hN with ⟨rfl, rfl, rfl⟩ | ho
    · exact hA.grow hgf hne.ne
    · have ho' : Own Wf w4.heap.size A' c' L1 := row_keep ho fun g h1 h2 => hT.block g h2 (by omega) (by omega)
      exact ho'.at.1
  · rcases hN with ⟨rfl, _⟩ | ho
    · exact fun g e => ⟨by have := (hne g e).1; have := hgf.size; omega, (hne g e).2⟩
    · exact fun g e => by have := ho.at.2 g e; have := hT.size; exact ⟨by omega, by omega⟩
  · rcases hN with ⟨rfl, _⟩ | ho
    · exact .inl rfl
    · exact .inr fun g e => by have := (ho.at.2 g e).1; omega
theorem heap_below {w1 w2 : World} (hb : Below w1.heap.size w1 w2) {g : Nat} {o : Obj} (h : w1.heap[g]? = some o) : w2.heap[g]? = some o := (hb.block g (lt_of_heap h)).trans h

end Bu
end Go.Proofs.Ytlknhbcambdccaa
namespace Go.Proofs.Ytlknhbcambdccaa
open Go.RowKit
namespace Sl
open Bu

abbrev Own? := Nat → Option Nat

/-- What a call that works on a cache leaves: blocks that are not the cache's are as they were; no old block has become the cache's, or ceased to be. -/
structure Keeps (own own' : Own?) (w w' : World) : Prop where
  os : w'.os = w.os
  tape : w'.tape = w.tape
  output : w'.output = w.output
  size : w.heap.size ≤ w'.heap.size
  block : ∀ k, k < w.heap.size → own k = none → w'.heap[k]? = w.heap[k]?
  same : ∀ k, k < w.heap.size → own' k = own k
  new : ∀ k, own' k ≠ none → own k ≠ none ∨ (w.heap.size ≤ k ∧ k < w'.heap.size)

theorem Keeps.refl (own : Own?) (w : World) : Keeps own own w w := ⟨rfl, rfl, rfl, Nat.le_refl _, fun _ _ _ => rfl, fun _ _ => rfl, fun _ h => .inl h⟩
theorem Keeps.trans {o1 o2 o3 : Own?} {a b c : World} (h : Keeps o1 o2 a b) (k : Keeps o2 o3 b c) : Keeps o1 o3 a c :=
  ⟨k.os.trans h.os, k.tape.trans h.tape, k.output.trans h.output, Nat.le_trans h.size k.size,
    fun i hi hn => (k.block i (Nat.lt_of_lt_of_le hi h.size) ((h.same i hi).trans hn)).trans (h.block i hi hn),
    fun i hi => (k.same i (Nat.lt_of_lt_of_le hi h.size)).trans (h.same i hi),
    fun i hi => by
      have h1 := h.size
      have h2 := k.size
      rcases k.new i hi with h3 | h3
      · rcases h.new i h3 with h4 | h4
        · exact .inl h4
        · exact .inr ⟨h4.1, by omega⟩
      · exact .inr ⟨by omega, h3.2⟩⟩
theorem Keeps.of_below (own : Own?) {w w' : World} (h : Below w.heap.size w w') : Keeps own own w w' :=
  ⟨h.os, h.tape, h.output, h.size, fun k hk _ => h.block k hk, fun _ _ => rfl, fun _ h => .inl h⟩
theorem Keeps.of_grow {own : Own?} {b : Nat} {w w' : World} (h : Grow1 b w w') (hb : own b ≠ none) : Keeps own own w w' :=
  ⟨h.os, h.tape, h.output, h.size, fun k hk hn => h.block k hk (fun e => hb (e ▸ hn)), fun _ _ => rfl, fun _ h => .inl h⟩

/-- No block that is not there yet is the cache's. -/
def Fresh (own : Own?) (w : World) : Prop := ∀ k, own k ≠ none → k < w.heap.size
theorem Fresh.keeps {own own' : Own?} {w w' : World} (h : Fresh own w) (k : Keeps own own' w w') : Fresh own' w' := fun i hi => by
  rcases k.new i hi with h1 | h1
  · exact Nat.lt_of_lt_of_le (h i h1) k.size
  · exact h1.2

/-- The cells of a slab's objects. -/
def bcells (us : List Bool) : List Value := us.map Value.bool
theorem bcells_len (us : List Bool) : (bcells us).length = us.length := List.length_map _
theorem bcells_get (us : List Bool) (i : Nat) : (bcells us)[i]? = us[i]?.map Value.bool := List.getElem?_map ..

def ptrs (R : List Nat) : List Value := R.map fun p => .pointer (some ⟨p, 0, none⟩)
theorem ptrs_len (R : List Nat) : (ptrs R).length = R.length := List.length_map _

theorem row_cell {w : World} {B e u n cap i : Nat} {xs : List Value} {v : Value} (h : w.ownsRow B e 1 (.slice (some ⟨u, 0, none⟩) n cap) n xs) (hi : xs[i]? = some v) : w.cell? ⟨u, i, none⟩ = some v := by
  rcases h.2 with ⟨hv, _⟩ | ⟨g, cp, cur, hv, _, hg, _, _, _, hx⟩
  · cases hv
  · injection hv with h1
    injection h1 with h1; injection h1 with h1
    subst h1
    rw [cell_of_row _ _ _ _ _ _ hg]
    rw [← hx, List.getElem?_take] at hi
    split at hi
    · rw [← Array.getElem?_toList]; exact hi
    · cases hi
theorem row_frozen {w : World} {B e u n cap : Nat} {xs : List Value} (h : w.ownsRow B e 1 (.slice (some ⟨u, 0, none⟩) n cap) n xs) (i : Nat) : w.frozen? ⟨u, i, none⟩ = false := by
  rcases h.2 with ⟨hv, _⟩ | ⟨g, cp, cur, hv, _, hg, _⟩
  · cases hv
  · injection hv with h1
    injection h1 with h1; injection h1 with h1
    subst h1
    simp [World.frozen?, hg]
theorem row_caps {w : World} {B e u n cap : Nat} {xs : List Value} (h : w.ownsRow B e 1 (.slice (some ⟨u, 0, none⟩) n cap) n xs) : n ≤ cap ∧ cap ≤ maxLen ∧ u < w.heap.size := by
  rcases h.2 with ⟨hv, _⟩ | ⟨g, cp, cur, hv, _, hg, h1, h2, _⟩
  · cases hv
  · injection hv with e1 e2 e3
    injection e1 with e1; injection e1 with e1
    subst e1; subst e3
    exact ⟨h1, h2, lt_of_heap hg⟩
theorem row_set {w : World} {B e u n cap i : Nat} {xs : List Value} {v : Value} (h : w.ownsRow B e 1 (.slice (some ⟨u, 0, none⟩) n cap) n xs) (hi : i < n) : (w.setCell ⟨u, i, none⟩ v).ownsRow B e 1 (.slice (some ⟨u, 0, none⟩) n cap) n (xs.set i v) := by
  refine ⟨by rw [List.length_set]; exact h.1, ?_⟩
  rcases h.2 with ⟨hv, _⟩ | ⟨g, cp, cur, hv, hB, hg, h1, h2, h3, hx⟩
  · cases hv
  · injection hv with e1 e2 e3
    injection e1 with e1; injection e1 with e1
    subst e1; subst e3
    refine .inr ⟨u, cap, cur.setIfInBounds i v, rfl, hB, setCell_at _ _ _ _ _ _ hg, h1, h2, by simpa using h3, ?_⟩
    rw [← hx, Array.toList_setIfInBounds, List.take_set]

/-- A slab: block p has it, block u what is allocated. -/
structure SlabAt (w : World) (own : Own?) (p u n cap : Nat) (x : Slb) : Prop where
  ownP : own p = some 3
  ownU : own u = some (p + 10)
  cell : w.heap[p]? = some (.cells #[.int .i64 (x.pg : Int), .slice (some ⟨u, 0, none⟩) x.us.length cap, .int .i64 (n : Int)] 101 (0, 0))
  row : w.ownsRow 0 4 1 (.slice (some ⟨u, 0, none⟩) x.us.length cap) x.us.length (bcells x.us)

/-- A cache: block c has it, block b the allocator. -/
structure CacheAt (w : World) (own : Own?) (c b : Nat) (C : Ca) (e : Nat) (A : Option Addr) (cap : Nat) (R : List Nat) : Prop where
  ownC : own c = some 0
  ownB : own b = some 1
  cell : w.heap[c]? = some (.cells #[.pointer (some ⟨b, 0, none⟩), .int .i64 (C.size : Int), .int .i64 (C.order : Int), .int .i64 (C.keep : Int), .slice A R.length cap, .int .i64 (e : Int)] 78 (0, 0))
  row : w.ownsRow 0 97 1 (.slice A R.length cap) R.length (ptrs R)
  ownG : ∀ g, A.map (·.block) = some g → own g = some 2
  len : R.length = C.sl.length
  nd : R.Nodup
  slab : ∀ (i p : Nat) (x : Slb), R[i]? = some p → C.sl[i]? = some x → ∃ u ucap, SlabAt w own p u x.many ucap x

theorem SlabAt.same {w w' : World} {own own' : Own?} {p u n cap : Nat} {x : Slb} (h : SlabAt w own p u n cap x)
    (hk : ∀ k, k = p ∨ k = u → k < w.heap.size → w'.heap[k]? = w.heap[k]? ∧ own' k = own k) : SlabAt w' own' p u n cap x := by
  have hp := hk p (.inl rfl) (lt_of_heap h.cell)
  have hul : u < w.heap.size := (h.row.lt u rfl).2
  have hu := hk u (.inr rfl) hul
  exact ⟨hp.2.trans h.ownP, hu.2.trans h.ownU, hp.1.trans h.cell, row_same h.row fun g hg => by
    have hg : u = g := by injection hg
    rw [← hg]; exact hu.1⟩
theorem CacheAt.same {w w' : World} {own own' : Own?} {c b : Nat} {C : Ca} {e : Nat} {A : Option Addr} {cap : Nat} {R : List Nat} (h : CacheAt w own c b C e A cap R)
    (hk : ∀ k, own k ≠ none → k ≠ b → k < w.heap.size → w'.heap[k]? = w.heap[k]?) (ho : ∀ k, own k ≠ none → k < w.heap.size → own' k = own k) (hb : own' b = own b) : CacheAt w' own' c b C e A cap R := by
  have hcb : c ≠ b := fun e => by have := h.ownC; rw [e, h.ownB] at this; cases this
  have hcl := lt_of_heap h.cell
  refine ⟨(ho c (by rw [h.ownC]; simp) hcl).trans h.ownC, hb.trans h.ownB, (hk c (by rw [h.ownC]; simp) hcb hcl).trans h.cell, ?_, ?_, h.len, h.nd, fun i p x hp hx => ?_⟩
  · refine row_same h.row fun g hg => ?_
    have hgl := (h.row.lt g hg).2
    have hgo := h.ownG g (by cases A with | none => cases hg | some a => injection hg with hg; rw [← hg]; rfl)
    exact hk g (by rw [hgo]; simp) (fun e => by rw [e, h.ownB] at hgo; cases hgo) hgl
  · intro g hg
    have hgo := h.ownG g hg
    have hgl : g < w.heap.size := (h.row.lt g (by cases A with | none => cases hg | some a => injection hg with hg; rw [← hg]; rfl)).2
    exact (ho g (by rw [hgo]; simp) hgl).trans hgo
  · obtain ⟨u, ucap, hs⟩ := h.slab i p x hp hx
    refine ⟨u, ucap, hs.same fun k hk' hl => ?_⟩
    rcases hk' with rfl | rfl
    · exact ⟨hk _ (by rw [hs.ownP]; simp) (fun e => by have := hs.ownP; rw [e, h.ownB] at this; cases this) hl, ho _ (by rw [hs.ownP]; simp) hl⟩
    · exact ⟨hk _ (by rw [hs.ownU]; simp) (fun e => by have := hs.ownU; rw [e, h.ownB] at this; injection this with this; omega) hl, ho _ (by rw [hs.ownU]; simp) hl⟩

/-- A cache and its allocator, in terms of what they are. -/
structure Held (w : World) (own : Own?) (c b : Nat) (C : Ca) (N : Nat) (L : List Blk) : Prop where
  at_ : ∃ A cap R, CacheAt w own c b C (emptyS C.sl) A cap R
  bu : BuL w b N L
  ok : CaOk C N L
  fresh : Fresh own w

theorem Held.below {w w' : World} {own : Own?} {c b : Nat} {C : Ca} {N : Nat} {L : List Blk} (h : Held w own c b C N L) (hb : Below w.heap.size w w') : Held w' own c b C N L := by
  obtain ⟨A, cap, R, hc⟩ := h.at_
  exact ⟨⟨A, cap, R, hc.same (fun k _ _ hl => hb.block k hl) (fun _ _ _ => rfl) rfl⟩, h.bu.keep (hb.block _ h.bu.lt), h.ok, h.fresh.keeps (.of_below own hb)⟩
end Sl
end Go.Proofs.Ytlknhbcambdccaa
namespace Go.Proofs.Ytlknhbcambdccaa
open Go.RowKit
namespace Sl
open Bu

theorem run_equalIn_ptr_nil (P : Program) (w : World) (d : Nat) (t e : TypeId) (p : Option Addr) (h : P.underlying t = some (.pointer e)) :
    (Op.equalIn (d + 1) t (.pointer p) (.pointer none)).run P w = .ok p.isNone w := by
  cases p <;> simp [Op.equalIn, run_underlying h]
theorem run_equal_ptr_nil (P : Program) (w : World) (t e : TypeId) (p : Option Addr) (h : P.underlying t = some (.pointer e)) :
    (Op.equal t (.pointer p) (.pointer none)).run P w = .ok p.isNone w := run_equalIn_ptr_nil P w 9999 t e p h
theorem run_eql_ptr_nil (P : Program) (w : World) (t e : TypeId) (p : Option Addr) (h : P.underlying t = some (.pointer e)) :
    (binOp .eql t (.pointer p) (.pointer none)).run P w = .ok (.bool p.isNone) w := by
  have h2 := run_equal_ptr_nil P w t e p h
  simp only [binOp]
  simp [h2]

theorem six_cells {w : World} {b T : Nat} {x0 x1 x2 x3 x4 x5 : Value} (h : w.heap[b]? = some (.cells #[x0, x1, x2, x3, x4, x5] T (0, 0))) :
    w.cell? ⟨b, 0, none⟩ = some x0 ∧ w.cell? ⟨b, 1, none⟩ = some x1 ∧ w.cell? ⟨b, 2, none⟩ = some x2 ∧ w.cell? ⟨b, 3, none⟩ = some x3 ∧ w.cell? ⟨b, 4, none⟩ = some x4 ∧ w.cell? ⟨b, 5, none⟩ = some x5 ∧
      w.frozen? ⟨b, 4, none⟩ = false ∧ w.frozen? ⟨b, 5, none⟩ = false := by
  refine ⟨?_, ?_, ?_, ?_, ?_, ?_, ?_, ?_⟩ <;> simp [World.cell?, World.frozen?, h]
theorem three_cells {w : World} {b T : Nat} {x0 x1 x2 : Value} (h : w.heap[b]? = some (.cells #[x0, x1, x2] T (0, 0))) :
    w.cell? ⟨b, 0, none⟩ = some x0 ∧ w.cell? ⟨b, 1, none⟩ = some x1 ∧ w.cell? ⟨b, 2, none⟩ = some x2 ∧ w.frozen? ⟨b, 2, none⟩ = false := by
  refine ⟨?_, ?_, ?_, ?_⟩ <;> simp [World.cell?, World.frozen?, h]

set_option maxRecDepth 100000 in
theorem dead_ok (w : World) (c : Nat) (p : Option Addr) (h : w.cell? ⟨c, 0, none⟩ = some (.pointer p)) :
    Calls Try.prog 34 #[.pointer (some ⟨c, 0, none⟩)] w fun e w' => e = .returned (.bool p.isNone) ∧ w = w' := by
  have h1 := fun p => run_eql_ptr_nil Try.prog w 22 _ p Try.underlying22
  have h2 := fun p => run_eql_ptr_nil Try.prog w 33 _ p Try.underlying33
  go_enter Try.func34, Try.ntmps34
  go_wp2
  go_ret
  exact ⟨rfl, rfl⟩
set_option maxRecDepth 100000 in
theorem dead_nil (w : World) :
    Calls Try.prog 34 #[.pointer none] w fun e w' => e = .returned (.bool true) ∧ w = w' := by
  have h1 := fun p => run_eql_ptr_nil Try.prog w 22 _ p Try.underlying22
  go_enter Try.func34, Try.ntmps34
  go_wp2
  go_ret
  exact ⟨rfl, rfl⟩

theorem shl_w64 (o : Nat) (h : o ≤ 4) : wrap64 ((64 : Int) * 2 ^ o) = ((64 * 2 ^ o : Nat) : Int) := by
  have h16 : 2 ^ o ≤ 2 ^ 4 := Nat.pow_le_pow_right (by decide) h
  have e2 : ((2 : Int) ^ o) = ((2 ^ o : Nat) : Int) := by rw [Int.natCast_pow]; rfl
  rw [e2]
  obtain ⟨m, hm⟩ : ∃ m : Nat, m = 2 ^ o := ⟨_, rfl⟩
  rw [← hm] at h16 ⊢
  rw [← w64, IntWalk.i64_in _ (by omega)]
  omega
theorem capa_w64 (size order : Nat) (hs : 8 ≤ size) (ho : order ≤ 4) : wrap64 (((64 : Int) * 2 ^ order).tdiv (size : Int)) = (capa size order : Int) := by
  have h16 : 2 ^ order ≤ 2 ^ 4 := Nat.pow_le_pow_right (by decide) ho
  have e2 : ((2 : Int) ^ order) = ((2 ^ order : Nat) : Int) := by rw [Int.natCast_pow]; rfl
  rw [e2]
  unfold capa
  obtain ⟨m, hm⟩ : ∃ m : Nat, m = 2 ^ order := ⟨_, rfl⟩
  rw [← hm] at h16 ⊢
  have e3 : (64 : Int) * (m : Int) = ((64 * m : Nat) : Int) := by omega
  rw [e3, ← Int.ofNat_tdiv, ← w64]
  have hd : 64 * m / size ≤ 64 * m := Nat.div_le_self _ _
  obtain ⟨q, hq⟩ : ∃ q : Nat, q = 64 * m / size := ⟨_, rfl⟩
  rw [← hq] at hd ⊢
  exact IntWalk.i64_in _ (by omega)

set_option maxRecDepth 100000 in
set_option maxHeartbeats 1000000 in
theorem capacity_ok (w : World) (c size order : Nat) (h1 : w.cell? ⟨c, 1, none⟩ = some (.int .i64 (size : Int))) (h2 : w.cell? ⟨c, 2, none⟩ = some (.int .i64 (order : Int))) (hs : 8 ≤ size) (ho : order ≤ 4) :
    Calls Try.prog 40 #[.pointer (some ⟨c, 0, none⟩)] w fun e w' => e = .returned (.int .i64 (capa size order : Int)) ∧ ∃ n, w' = w.drewN n := by
  have e0 : (0 : Int) ≤ (order : Int) := by omega
  have e1 : (size : Int) ≠ 0 := by omega
  have hsh := shl_w64 order ho
  go_enter Try.func40, Try.ntmps40
  go_wp2_with (fail)
  go_quiet (fail)
  go_wp2
  go_ret
  exact ⟨congrArg (fun x => Ending.returned (.int .i64 x)) (capa_w64 size order hs ho), _, rfl⟩

set_option maxRecDepth 100000 in
set_option maxHeartbeats 1000000 in
theorem address_ok (w : World) (c p size pg i : Nat) (h1 : w.cell? ⟨c, 1, none⟩ = some (.int .i64 (size : Int))) (h2 : w.cell? ⟨p, 0, none⟩ = some (.int .i64 (pg : Int))) (hs : size ≤ 1024) (hp : pg ≤ 1024) (hi : i ≤ 1024) :
    Calls Try.prog 43 #[.pointer (some ⟨c, 0, none⟩), .pointer (some ⟨p, 0, none⟩), .int .i64 (i : Int)] w fun e w' => e = .returned (.int .i64 ((64 * pg + i * size : Nat) : Int)) ∧ ∃ n, w' = w.drewN n := by
  have hm : i * size ≤ 1024 * 1024 := Nat.mul_le_mul hi hs
  have hm1 : IntKind.i64.wrap ((i : Int) * (size : Int)) = ((i * size : Nat) : Int) := by rw [← Int.natCast_mul, IntWalk.i64_in _ (by omega)]
  have hm2 : IntKind.i64.wrap (64 * (pg : Int)) = ((64 * pg : Nat) : Int) := by rw [IntWalk.i64_in _ (by omega)]; omega
  obtain ⟨y, hy⟩ : ∃ y : Nat, y = i * size := ⟨_, rfl⟩
  obtain ⟨z, hz⟩ : ∃ z : Nat, z = 64 * pg := ⟨_, rfl⟩
  rw [← hy] at hm1 hm ⊢
  rw [← hz] at hm2 ⊢
  have hsum : IntKind.i64.wrap ((z : Int) + (y : Int)) = ((z + y : Nat) : Int) := by rw [IntWalk.i64_in _ (by omega)]; rfl
  clear hy hz
  go_enter Try.func43, Try.ntmps43
  go_wp2_with (fail)
  go_quiet (fail)
  go_wp2
  go_ret
  exact ⟨rfl, _, rfl⟩

set_option maxRecDepth 100000 in
set_option maxHeartbeats 1000000 in
theorem index_ok (w : World) (u cap : Nat) (us : List Bool) (h : w.ownsRow 0 4 1 (.slice (some ⟨u, 0, none⟩) us.length cap) us.length (bcells us)) :
    Calls Try.prog 42 #[.slice (some ⟨u, 0, none⟩) us.length cap, .bool false] w fun e w' => e = .returned (.int .i64 (if freeI us < us.length then (freeI us : Int) else -1)) ∧ w = w' := by
  obtain ⟨hcap, hmax, _⟩ := row_caps h
  unfold maxLen at hmax
  have HR := Lib.hid h
  clear h
  obtain ⟨r, hr⟩ : ∃ r : Int, r = if freeI us < us.length then (freeI us : Int) else -1 := ⟨_, rfl⟩
  rw [← hr]
  have HF := Lib.hid hr
  clear hr
  go_enter Try.func42, Try.ntmps42
  go_wp2_with (fail)
  go_loop [5, 8] (fun _ i => ∃ k : Nat, k ≤ us.length ∧ i = .int .i64 (k : Int) ∧ ∀ j, j < k → us[j]? = some true) (fun _ i => us.length - (intOf i).toNat)
  case atStart => exact ⟨0, Nat.zero_le _, rfl, fun j hj => by omega⟩
  case round =>
    obtain ⟨k, hk, rfl, hall⟩ := hrel
    have HA := Lib.hid hall
    clear hall
    have e0 : (0 : Int) ≤ (k : Int) := by omega
    by_cases hlt : k < us.length
    · have e1 : (k : Int) < (us.length : Int) := by omega
      have hkk : IntKind.i64.wrap ((k : Int) + 1) = ((k + 1 : Nat) : Int) := by rw [IntWalk.i64_in _ (by omega)]; rfl
      obtain ⟨v, hv⟩ : ∃ v, us[k]? = some v := ⟨_, List.getElem?_eq_getElem hlt⟩
      have hc := row_cell HR.out (i := k) (v := .bool v) (by rw [bcells_get, hv]; rfl)
      have HV := Lib.hid hv
      clear hv
      cases v with
      | true =>
        go_wp2
        exact ⟨⟨k + 1, by omega, by go_num, fun j hj => by
          by_cases e : j = k
          · rw [e]; exact HV.out
          · exact HA.out j (by omega)⟩, by simp [intOf]; omega⟩
      | false =>
        go_wp2
        go_ret
        refine ⟨?_, rfl⟩
        have hf : freeI us = k := by
          have := List.findIdx_eq (p := fun b : Bool => !b) (xs := us) hlt
          refine this.2 ⟨?_, fun j hj => ?_⟩
          · have := HV.out; rw [List.getElem?_eq_getElem hlt] at this; injection this with this; simp [this]
          · have := HA.out j hj; rw [List.getElem?_eq_getElem (by omega)] at this; injection this with this; simp [this]
        rw [HF.out, hf, if_pos hlt]; rfl
    · obtain rfl : k = us.length := by omega
      have e1 : ¬ ((us.length : Nat) : Int) < (us.length : Int) := by omega
      go_wp2
      go_ret
      refine ⟨?_, rfl⟩
      have hno : ¬ freeI us < us.length := fun hf => by
        have h1 := HA.out _ hf
        have h2 := List.findIdx_getElem (p := fun b : Bool => !b) (w := hf)
        rw [List.getElem?_eq_getElem hf] at h1
        injection h1 with h1
        unfold freeI at h1
        rw [h1] at h2
        cases h2
      rw [HF.out, if_neg hno]; rfl
end Sl
end Go.Proofs.Ytlknhbcambdccaa
namespace Go.Proofs.Ytlknhbcambdccaa
open Go.RowKit
namespace Sl
open Bu

/-- A slab has an address. -/
def hitS (order : Nat) (at_ : Int) (x : Slb) : Prop := 64 * (x.pg : Int) ≤ at_ ∧ at_ < 64 * (x.pg : Int) + ((64 * 2 ^ order : Nat) : Int)
theorem holdS_none {order : Nat} {at_ : Int} : ∀ {l : List Slb} (i : Nat), (∀ (j : Nat) (x : Slb), l[j]? = some x → ¬ hitS order at_ x) → holdS order i l at_ = none := by
  intro l
  induction l with
  | nil => intro i _; rfl
  | cons y l ih =>
    intro i h
    unfold holdS
    rw [if_neg (fun hq => h 0 y rfl ⟨hq.1, hq.2⟩)]
    exact ih (i + 1) fun j x hx => h (j + 1) x (by simpa using hx)
theorem holdS_at {order : Nat} {at_ : Int} : ∀ {l : List Slb} (i k : Nat) {x : Slb}, l[k]? = some x → hitS order at_ x → (∀ (j : Nat) (y : Slb), j < k → l[j]? = some y → ¬ hitS order at_ y) → holdS order i l at_ = some (i + k, (at_ - 64 * (x.pg : Int)).toNat) := by
  intro l
  induction l with
  | nil => intro i k x hx; simp at hx
  | cons y l ih =>
    intro i k x hx hh hno
    unfold holdS
    cases k with
    | zero =>
      have : y = x := by simpa using hx
      subst this
      rw [if_pos ⟨hh.1, hh.2⟩]; rfl
    | succ k =>
      rw [if_neg (fun hq => hno 0 y (by omega) rfl ⟨hq.1, hq.2⟩)]
      rw [ih (i + 1) k (by simpa using hx) hh fun j z hj hz => hno (j + 1) z (by omega) (by simpa using hz)]
      congr 2; omega

/-- What holder answers. -/
def HoldR (R : List Nat) (C : Ca) (at_ : Int) (e : Ending) : Prop :=
  match holdS C.order 0 C.sl at_ with
  | none => e = .returned (.tuple #[.pointer none, .int .i64 0])
  | some (j, d) => ∃ p, R[j]? = some p ∧ e = .returned (.tuple #[.pointer (some ⟨p, 0, none⟩), .int .i64 (d : Int)])

set_option maxRecDepth 100000 in
set_option maxHeartbeats 8000000 in
theorem holder_ok (w : World) (own : Own?) (c b : Nat) (C : Ca) (e : Nat) (A : Option Addr) (cap : Nat) (R : List Nat) (hC : CacheAt w own c b C e A cap R) (hpg : ∀ x ∈ C.sl, x.pg ≤ 1024) (hod : C.order ≤ 4) (hsz : C.size ≤ 1024)
    (at_ : Int) (ha1 : -9223372036854775808 ≤ at_) (ha2 : at_ < 9223372036854775808) :
    Calls Try.prog 35 #[.pointer (some ⟨c, 0, none⟩), .int .i64 at_] w fun e w' => HoldR R C at_ e ∧ ∃ n, w' = w.drewN n := by
  obtain ⟨_, c1, c2, _, c4, _, _, _⟩ := six_cells hC.cell
  obtain ⟨n, hn⟩ : ∃ n, n = R.length := ⟨_, rfl⟩
  have hnl : n = C.sl.length := hn.trans hC.len
  rw [← hn] at c4
  have hcap : n ≤ cap ∧ cap ≤ maxLen := by
    rcases hC.row.2 with ⟨hv, h0⟩ | ⟨g, cp, cur, hv, _, _, g1, g2, _⟩
    · injection hv with _ _ h3; unfold maxLen; omega
    · injection hv with _ _ h3; rw [hn, h3]; exact ⟨g1, g2⟩
  obtain ⟨hcap1, hcap2⟩ := hcap
  unfold maxLen at hcap2
  have HX := Lib.hid (And.intro hC (And.intro hn (And.intro hnl hpg)))
  have HC0 := Lib.hid (And.intro c1 (And.intro c2 hod))
  obtain ⟨y, hy⟩ : ∃ y : Nat, y = 64 * 2 ^ C.order := ⟨_, rfl⟩
  have hsh : wrap64 ((64 : Int) * 2 ^ C.order) = (y : Int) := by rw [hy]; exact shl_w64 _ hod
  have e0o : (0 : Int) ≤ (C.order : Int) := by omega
  have hy2 : y ≤ 1024 := by
    have : 2 ^ C.order ≤ 2 ^ 4 := Nat.pow_le_pow_right (by decide) hod
    omega
  have HY := Lib.hid hy
  have hsh2 : wrap64 ((64 : Int) * 2 ^ min C.order 64) = (y : Int) := by rw [show min C.order 64 = C.order by omega]; exact hsh
  clear hC hn hnl hpg hy c1 hod
  go_enter Try.func35, Try.ntmps35
  go_wp2_with (fail)
  clear c4 c2
  go_loopw [7, 8, 14] (fun _ _ i wr => ∃ k : Nat, k ≤ n ∧ i = .int .i64 (k : Int) ∧ (∀ (j : Nat) (x : Slb), j < k → C.sl[j]? = some x → ¬ hitS C.order at_ x) ∧ ∃ d, wr = w.drewN d) (fun _ _ i _ => n - (intOf i).toNat)
  case atStart => exact ⟨0, Nat.zero_le _, rfl, fun j x hj => by omega, 0, rfl⟩
  case round =>
    obtain ⟨k, hk, rfl, hno, d0, hwr⟩ := hrel
    have e0 : (0 : Int) ≤ (k : Int) := by omega
    have c1 : wr.cell? ⟨c, 1, none⟩ = some (.int .i64 (C.size : Int)) := by rw [hwr]; exact HC0.out.1
    have c2 : wr.cell? ⟨c, 2, none⟩ = some (.int .i64 (C.order : Int)) := by rw [hwr]; exact HC0.out.2.1
    have HW := Lib.hid hwr
    have HN := Lib.hid hno
    clear hno
    by_cases hlt : k < n
    · have e1 : (k : Int) < (n : Int) := by omega
      obtain ⟨p, hp⟩ : ∃ p, R[k]? = some p := ⟨_, List.getElem?_eq_getElem (by have := HX.out.2.1; omega)⟩
      obtain ⟨x, hx⟩ : ∃ x, C.sl[k]? = some x := ⟨_, List.getElem?_eq_getElem (by have := HX.out.2.2.1; omega)⟩
      obtain ⟨u, uc, hs⟩ := HX.out.1.slab k p x hp hx
      have hkk : IntKind.i64.wrap ((k : Int) + 1) = ((k + 1 : Nat) : Int) := by rw [IntWalk.i64_in _ (by omega)]; rfl
      have hxp := HX.out.2.2.2 x (List.mem_of_getElem? hx)
      have p0 : wr.cell? ⟨p, 0, none⟩ = some (.int .i64 (x.pg : Int)) := by rw [hwr]; exact (three_cells hs.cell).1
      obtain ⟨g, hA⟩ : ∃ g, A = some ⟨g, 0, none⟩ := by
        rcases HX.out.1.row.2 with ⟨_, h0⟩ | ⟨g, cp, cur, hv, _⟩
        · have := HX.out.2.1; omega
        · injection hv with hv; exact ⟨g, hv⟩
      have hrow := HX.out.1.row
      subst hA
      have hgc : wr.cell? ⟨g, k, none⟩ = some (.pointer (some ⟨p, 0, none⟩)) := by rw [hwr]; exact row_cell hrow (i := k) (v := .pointer (some ⟨p, 0, none⟩)) (by unfold ptrs; rw [List.getElem?_map, hp]; rfl)
      have hadr := address_ok wr c p C.size x.pg 0 c1 p0 hsz hxp (by omega)
      obtain ⟨z, hz⟩ : ∃ z : Nat, z = 64 * x.pg := ⟨_, rfl⟩
      rw [Nat.zero_mul, Nat.add_zero, ← hz] at hadr
      have HAd := Lib.hid hadr
      have hz2 : z ≤ 65536 := by omega
      have hhit : hitS C.order at_ x ↔ (z : Int) ≤ at_ ∧ at_ < (z : Int) + (y : Int) := by
        unfold hitS
        rw [HY.out, hz]
        omega
      have HP := Lib.hid (And.intro hp (And.intro hx (And.intro hhit hz)))
      clear hadr hs hp hx hrow p0 hz hwr c1 hxp
      obtain ⟨dv, hdv⟩ : ∃ dv, dv = IntKind.i64.wrap (at_ - (z : Int)) := ⟨_, rfl⟩
      by_cases hh : (z : Int) ≤ at_ ∧ at_ < (z : Int) + (y : Int)
      · obtain ⟨h1, h2⟩ := hh
        have t1 : (0 : Int) ≤ at_ := by omega
        have hdv2 : IntKind.i64.wrap (at_ - (z : Int)) = at_ - (z : Int) := IntWalk.i64_in _ (by omega)
        have t3 : at_ - (z : Int) < wrap64 ((64 : Int) * 2 ^ min C.order 64) := by rw [hsh2]; omega
        have HD := Lib.hid (And.intro h1 h2)
        clear h2 hhit hdv
        go_wp2_with (go_at_call 43; refine HAd.out.mono ?_; rintro e w' ⟨rfl, dd, rfl⟩)
        go_ret2
        refine ⟨?_, _, by rw [HW.out]; exact World.drewN_drewN ..⟩
        unfold HoldR
        rw [holdS_at 0 k HP.out.2.1 (HP.out.2.2.1.2 HD.out) HN.out]
        refine ⟨p, by rw [Nat.zero_add]; exact HP.out.1, ?_⟩
        have := HP.out.2.2.2
        have := HD.out.1
        rw [show ((at_ - 64 * (x.pg : Int)).toNat : Int) = at_ - (z : Int) by omega]
        rfl
      · have hnx : ∀ (j : Nat) (x' : Slb), j < k + 1 → C.sl[j]? = some x' → ¬ hitS C.order at_ x' := fun j x' hj hx' => by
          by_cases ej : j = k
          · subst ej
            have := HP.out.2.1
            rw [this] at hx'
            injection hx' with hx'
            subst hx'
            exact fun h => hh (HP.out.2.2.1.1 h)
          · exact HN.out j x' (by omega) hx'
        have HN2 := Lib.hid hnx
        clear hnx hhit
        by_cases h0 : 0 ≤ at_
        · have hdv2 : IntKind.i64.wrap (at_ - (z : Int)) = at_ - (z : Int) := IntWalk.i64_in _ (by omega)
          by_cases h1 : (z : Int) ≤ at_
          · have t3 : wrap64 ((64 : Int) * 2 ^ min C.order 64) ≤ at_ - (z : Int) := by rw [hsh2]; omega
            have t4 : ¬ at_ - (z : Int) < wrap64 ((64 : Int) * 2 ^ min C.order 64) := by omega
            clear hh hdv
            go_wp2_with (go_at_call 43; refine HAd.out.mono ?_; rintro e w' ⟨rfl, dd, rfl⟩)
            go_roundw
            case rel => exact ⟨k + 1, by omega, by go_num, HN2.out, _, by rw [HW.out]; exact World.drewN_drewN ..⟩
            case measure => simp [intOf]; omega
          · have t2 : at_ < (z : Int) := by omega
            clear hh hdv
            go_wp2_with (go_at_call 43; refine HAd.out.mono ?_; rintro e w' ⟨rfl, dd, rfl⟩)
            go_roundw
            case rel => exact ⟨k + 1, by omega, by go_num, HN2.out, _, by rw [HW.out]; exact World.drewN_drewN ..⟩
            case measure => simp [intOf]; omega
        · have t1 : at_ < 0 := by omega
          rw [eq_comm] at hdv
          clear hh
          go_wp2_with (go_at_call 43; refine HAd.out.mono ?_; rintro e w' ⟨rfl, dd, rfl⟩)
          go_roundw
          case rel => exact ⟨k + 1, by omega, by go_num, HN2.out, _, by rw [HW.out]; exact World.drewN_drewN ..⟩
          case measure => simp [intOf]; omega
    · obtain rfl : k = n := by omega
      have e1 : ¬ ((k : Nat) : Int) < (k : Int) := by omega
      go_wp2
      go_ret2
      refine ⟨?_, _, rfl⟩
      unfold HoldR
      rw [holdS_none 0 (fun j x hx => HN.out j x (by have := (List.getElem?_eq_some_iff.1 hx).1; have := HX.out.2.2.1; omega) hx)]
      rfl
end Sl
end Go.Proofs.Ytlknhbcambdccaa
