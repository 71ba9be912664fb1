/- Rows of integers that are written in place. -/
import Derived.Test.YtllmddhahpegmaaBE
import Derived.Test.YtllmddhahpegmaaPlain13
import Derived.Test.YtllmddhahpegmaaY
namespace Go.Proofs.Ytllmddhahpegmaa
open Go.RowKit
namespace Ne

def IntsAt (w : World) (g N : Nat) (f : Nat → Int) : Prop := ∃ cs, w.heap[g]? = some (.cells cs 3 (0, 0)) ∧ cs.size = N ∧ ∀ p, p < N → cs[p]? = some (.int .i64 (f p))

theorem IntsAt.cell {w : World} {g N : Nat} {f : Nat → Int} (h : IntsAt w g N f) {p : Nat} (hp : p < N) : w.cell? ⟨g, p, none⟩ = some (.int .i64 (f p)) := by
  obtain ⟨cs, h1, h2, h3⟩ := h
  simp [World.cell?, h1, h3 p hp]
theorem IntsAt.frozen {w : World} {g N : Nat} {f : Nat → Int} (h : IntsAt w g N f) (p : Nat) : w.frozen? ⟨g, p, none⟩ = false := by
  obtain ⟨cs, h1, h2, h3⟩ := h
  simp [World.frozen?, h1]
theorem IntsAt.lt {w : World} {g N : Nat} {f : Nat → Int} (h : IntsAt w g N f) : g < w.heap.size := by
  obtain ⟨cs, h1, _⟩ := h
  exact lt_of_heap h1
theorem IntsAt.keep {w w' : World} {g N : Nat} {f : Nat → Int} (h : IntsAt w g N f) (hk : w'.heap[g]? = w.heap[g]?) : IntsAt w' g N f := by
  obtain ⟨cs, h1, h2⟩ := h
  exact ⟨cs, hk.trans h1, h2⟩
theorem IntsAt.set {w : World} {g N : Nat} {f f' : Nat → Int} (h : IntsAt w g N f) {p : Nat} {v : Int} (hp : p < N) (h1 : f' p = v) (h2 : ∀ q, q ≠ p → f' q = f q) : IntsAt (w.setCell ⟨g, p, none⟩ (.int .i64 v)) g N f' := by
  obtain ⟨cs, a1, a2, a3⟩ := h
  refine ⟨cs.setIfInBounds p (.int .i64 v), setCell_at _ _ _ _ _ _ a1, by simpa using a2, fun q hq => ?_⟩
  by_cases e : q = p
  · subst e
    rw [Array.getElem?_setIfInBounds]
    simp [a2, hp, h1]
  · rw [Array.getElem?_setIfInBounds, if_neg (Ne.symm e), a3 q hq, h2 q e]
theorem IntsAt.congr {w : World} {g N : Nat} {f f' : Nat → Int} (h : IntsAt w g N f) (he : ∀ p, p < N → f' p = f p) : IntsAt w g N f' := by
  obtain ⟨cs, a1, a2, a3⟩ := h
  exact ⟨cs, a1, a2, fun p hp => by rw [a3 p hp, he p hp]⟩

/-- All but two blocks stay. -/
structure PK (gc gd : Nat) (w w' : World) : Prop where
  os : w'.os = w.os
  tape : w'.tape = w.tape
  output : w'.output = w.output
  size : w.heap.size ≤ w'.heap.size
  block : ∀ k, k < w.heap.size → k ≠ gc → k ≠ gd → w'.heap[k]? = w.heap[k]?

theorem PK.refl (gc gd : Nat) (w : World) : PK gc gd w w := ⟨rfl, rfl, rfl, Nat.le_refl _, fun _ _ _ _ => rfl⟩
theorem PK.trans {gc gd : Nat} {a b c : World} (h : PK gc gd a b) (k : PK gc gd b c) : PK gc gd a c :=
  ⟨k.os.trans h.os, k.tape.trans h.tape, k.output.trans h.output, Nat.le_trans h.size k.size, fun i hi h1 h2 => (k.block i (Nat.lt_of_lt_of_le hi h.size) h1 h2).trans (h.block i hi h1 h2)⟩
theorem PK.below {gc gd : Nat} {a b : World} (h : Below a.heap.size a b) : PK gc gd a b := ⟨h.os, h.tape, h.output, h.size, fun k hk _ _ => h.block k hk⟩
theorem PK.setC {gc gd : Nat} (w : World) (p : Nat) (v : Value) : PK gc gd w (w.setCell ⟨gc, p, none⟩ v) := ⟨rfl, rfl, rfl, by rw [setCell_size]; exact Nat.le_refl _, fun k _ h1 _ => setCell_far _ _ _ _ h1⟩
theorem PK.setD {gc gd : Nat} (w : World) (p : Nat) (v : Value) : PK gc gd w (w.setCell ⟨gd, p, none⟩ v) := ⟨rfl, rfl, rfl, by rw [setCell_size]; exact Nat.le_refl _, fun k _ _ h2 => setCell_far _ _ _ _ h2⟩
theorem PK.cell {gc gd : Nat} {w w' : World} (h : PK gc gd w w') {b o : Nat} {v : Value} (hb : b < w.heap.size) (h1 : b ≠ gc) (h2 : b ≠ gd) (hv : w.cell? ⟨b, o, none⟩ = some v) : w'.cell? ⟨b, o, none⟩ = some v :=
  (World.cell?_of_block (a := ⟨b, o, none⟩) (h.block b hb h1 h2)).trans hv
theorem PK.st {gc gd : Nat} {w w' : World} (h : PK gc gd w w') {K : Nat → Prop} (hK : ∀ k, K k → k ≠ gc ∧ k ≠ gd) {A : Option Addr} {c : Nat} {s : List SN} (hs : StK K w A c s) : StK K w' A c s :=
  hs.keep fun k hk hl => ⟨h.block k hl (hK k hk).1 (hK k hk).2, hk⟩
theorem PK.drewN {gc gd : Nat} (w : World) (n : Nat) : PK gc gd w (w.drewN n) := by
  have := below_drewN (Below.refl w.heap.size w) n
  exact .below this

theorem st_atK {K : Nat → Prop} {w : World} {A : Option Addr} {c : Nat} {M : Tr} (h : StK K w A c (save M)) {j : Nat} {o : Option Node} (hj : M[j]? = some o) :
    ∃ g f B cB, A = some ⟨g, f, none⟩ ∧ K g ∧ g < w.heap.size ∧ w.cell? ⟨g, f + j * 5, none⟩ = some (.int .i64 (saveNode o).p) ∧ w.cell? ⟨g, f + j * 5 + 1, none⟩ = some (.int .i64 (saveNode o).a) ∧ w.cell? ⟨g, f + j * 5 + 2, none⟩ = some (.int .i64 (saveNode o).s) ∧
      w.cell? ⟨g, f + j * 5 + 3, none⟩ = some (.slice B (saveNode o).l.length cB) ∧ w.cell? ⟨g, f + j * 5 + 4, none⟩ = some (.bool (saveNode o).cl) ∧ RowK K w B cB (saveNode o).l := by
  obtain ⟨g, f, B, cB, rfl, hK, ⟨cur, hcur⟩, p0, p1, p2, p3, p4, hR⟩ := h.2.2 j (saveNode o) (by rw [save, List.getElem?_map, hj]; rfl)
  exact ⟨g, f, B, cB, rfl, hK, lt_of_heap hcur, p0, p1, p2, p3, p4, hR⟩

theorem row_atK {K : Nat → Prop} {w : World} {A : Option Addr} {c : Nat} {l : List Item} (h : RowK K w A c l) {j : Nat} {x : Item} (hj : l[j]? = some x) :
    ∃ g f, A = some ⟨g, f, none⟩ ∧ K g ∧ g < w.heap.size ∧ w.cell? ⟨g, f + j * 3, none⟩ = some (.int .i64 x.a) ∧ w.cell? ⟨g, f + j * 3 + 1, none⟩ = some (.int .i64 x.s) ∧ w.cell? ⟨g, f + j * 3 + 2, none⟩ = some (.int .i64 x.c) := by
  obtain ⟨g, f, rfl, hK, ⟨cur, hcur⟩, s0, s1, s2⟩ := h.2.2 j x hj
  exact ⟨g, f, rfl, hK, lt_of_heap hcur, s0, s1, s2⟩

/-- What holds while arenas are painted. -/
structure Inv (M : Tr) (gc gd z : Nat) (W : World) (d i : Nat) (w : World) : Prop where
  frame : PK gc gd W w
  both : ∃ ct dr, IntsAt w gc z ct ∧ IntsAt w gd z dr ∧ Painted M (Proc M d i) z dr ∧ Counted M (fun j _ => Proc M d i j) z ct

theorem Inv.skip {M : Tr} {gc gd z : Nat} {W w w' : World} {d i : Nat} (h : Inv M gc gd z W d i w) (hn : ¬ Dep M i (d + 1)) (hb : Below w.heap.size w w') : Inv M gc gd z W d (i + 1) w' := by
  obtain ⟨hf, ct, dr, h1, h2, h3, h4⟩ := h
  exact ⟨hf.trans (.below hb), ct, dr, h1.keep (hb.block _ h1.lt), h2.keep (hb.block _ h2.lt), h3.congr fun j => proc_skip hn j, h4.congr fun _ j _ _ => proc_skip hn j⟩
end Ne
end Go.Proofs.Ytllmddhahpegmaa
