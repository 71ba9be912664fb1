/- Alloc of a cache, whole. A cache that a call made itself: what its calls do. The arguments, once more: a nil slice has no capacity. -/
import Derived.Test.YtlknhbcambdccaaK31
import Derived.Test.YtlknhbcambdccaaK27
import Derived.Test.YtlknhbcambdccaaK28
import Derived.Test.YtlknhbcambdccaaK29
import Derived.Test.YtlknhbcambdccaaK17
namespace Go.Proofs.Ytlknhbcambdccaa
open Go.RowKit
namespace Sl
open Bu

/-- What Alloc leaves. -/
def AllocR (own : Own?) (c b : Nat) (C : Ca) (N : Nat) (L : List Blk) (w : World) (e : Ending) (w' : World) : Prop :=
  match allocC C N L with
  | none => e = .returned (.tuple #[.int .i64 0, .int .i64 5]) ∧ Held w' own c b C N L ∧ Keeps own own w w'
  | some (a, sl, L') => e = .returned (.tuple #[.int .i64 (a : Int), .int .i64 0]) ∧ ∃ own', Held w' own' c b { C with sl := sl } N L' ∧ Keeps own own' w w'

theorem allocS_ok (w : World) (own : Own?) (c b : Nat) (C : Ca) (N : Nat) (L : List Blk) (H : Held w own c b C N L) :
    Calls Try.prog 12 #[.pointer (some ⟨c, 0, none⟩)] w fun e w' => AllocR own c b C N L w e w' := by
  unfold AllocR allocC
  cases hp : pickS 0 none C.sl with
  | some jm =>
    obtain ⟨j, m⟩ := jm
    obtain ⟨x, hx, _⟩ := pickS_some (l := C.sl) (k := C.sl.length) (Nat.le_refl _) (by rw [List.take_length]; exact hp)
    simp only [hx]
    exact (alloc_some w own c b C N L H j m x hp hx).mono fun e w' ⟨he, hH, hK⟩ => ⟨he, own, hH, hK⟩
  | none =>
    cases ha : allocB N L C.order with
    | none => exact alloc_full w own c b C N L H hp ha
    | some pl =>
      obtain ⟨p, L'⟩ := pl
      exact alloc_new w own c b C N L H p L' hp ha
end Sl
end Go.Proofs.Ytlknhbcambdccaa
namespace Go.Proofs.Ytlknhbcambdccaa
open Go.RowKit
namespace Sl
open Bu

/-- A cache, and its allocator, of blocks that did not lie in w. -/
structure Mine (w : World) (own : Own?) (c b : Nat) (C : Ca) (N : Nat) (L : List Blk) (W : World) : Prop where
  held : Held W own c b C N L
  below : Below w.heap.size w W
  out : ∀ z, z < w.heap.size → own z = none

theorem Mine.keeps {w W W' : World} {own own' : Own?} {c b : Nat} {C C' : Ca} {N : Nat} {L L' : List Blk} (h : Mine w own c b C N L W) (hH : Held W' own' c b C' N L') (hK : Keeps own own' W W') : Mine w own' c b C' N L' W' := by
  have hb := h.below
  have hs := hb.size
  exact ⟨hH, ⟨hK.os.trans hb.os, hK.tape.trans hb.tape, hK.output.trans hb.output, Nat.le_trans hs hK.size, fun z hz => (hK.block z (by omega) (h.out z hz)).trans (hb.block z hz)⟩, fun z hz => (hK.same z (by omega)).trans (h.out z hz)⟩
theorem Mine.step {w W W' : World} {own : Own?} {c b : Nat} {C : Ca} {N : Nat} {L : List Blk} (h : Mine w own c b C N L W) (hb : Below W.heap.size W W') : Mine w own c b C N L W' :=
  h.keeps (h.held.below hb) (.of_below own hb)
theorem below_drew (W : World) (n : Nat) : Below W.heap.size W (W.drewN n) := below_drewN (Below.refl _ _) n

def ownerV : Option (Nat × Bool) → Value
  | none => .tuple #[.int .i64 0, .bool false, .int .i64 4]
  | some (a, v) => .tuple #[.int .i64 (a : Int), .bool v, .int .i64 0]

/-- Only blocks of one's own are written. -/
theorem Mine.alloc {w W : World} {own : Own?} {c b : Nat} {C : Ca} {N : Nat} {L : List Blk} (h : Mine w own c b C N L W) {a : Nat} {sl : List Slb} {L' : List Blk} (ha : allocC C N L = some (a, sl, L')) :
    Calls Try.prog 12 #[.pointer (some ⟨c, 0, none⟩)] W fun e W' => e = .returned (.tuple #[.int .i64 (a : Int), .int .i64 0]) ∧ ∃ own', Mine w own' c b { C with sl := sl } N L' W' ∧ Keeps own own' W W' := by
  refine (allocS_ok W own c b C N L h.held).mono ?_
  intro e W' hr
  unfold AllocR at hr
  rw [ha] at hr
  obtain ⟨he, own', hH, hK⟩ := hr
  exact ⟨he, own', h.keeps hH hK, hK⟩
theorem Mine.full {w W : World} {own : Own?} {c b : Nat} {C : Ca} {N : Nat} {L : List Blk} (h : Mine w own c b C N L W) (ha : allocC C N L = none) :
    Calls Try.prog 12 #[.pointer (some ⟨c, 0, none⟩)] W fun e W' => e = .returned (.tuple #[.int .i64 0, .int .i64 5]) ∧ Mine w own c b C N L W' ∧ Keeps own own W W' := by
  refine (allocS_ok W own c b C N L h.held).mono ?_
  intro e W' hr
  unfold AllocR at hr
  rw [ha] at hr
  obtain ⟨he, hH, hK⟩ := hr
  exact ⟨he, h.keeps hH hK, hK⟩
theorem Mine.free {w W : World} {own : Own?} {c b : Nat} {C : Ca} {N : Nat} {L : List Blk} (h : Mine w own c b C N L W) {at_ : Int} (ha1 : -9223372036854775808 ≤ at_) (ha2 : at_ < 9223372036854775808) {n : Nat} {sl : List Slb} {L' : List Blk} (hf : freeC C L at_ = (n, sl, L')) :
    Calls Try.prog 11 #[.pointer (some ⟨c, 0, none⟩), .int .i64 at_] W fun e W' => e = .returned (.int .i64 (n : Int)) ∧ Mine w own c b { C with sl := sl } N L' W' ∧ Keeps own own W W' := by
  refine (freeS_ok W own c b C N L h.held at_ ha1 ha2).mono ?_
  intro e W' hr
  unfold FreeS at hr
  rw [hf] at hr
  obtain ⟨he, hH, hK⟩ := hr
  exact ⟨he, h.keeps hH hK, hK⟩
theorem Mine.owner {w W : World} {own : Own?} {c b : Nat} {C : Ca} {N : Nat} {L : List Blk} (h : Mine w own c b C N L W) {at_ : Int} (ha1 : -9223372036854775808 ≤ at_) (ha2 : at_ < 9223372036854775808) {o : Option (Nat × Bool)} (ho : ownerC C at_ = o) :
    Calls Try.prog 13 #[.pointer (some ⟨c, 0, none⟩), .int .i64 at_] W fun e W' => e = .returned (ownerV o) ∧ Mine w own c b C N L W' ∧ Below W.heap.size W W' := by
  refine (ownerS_ok W own c b C N L h.held at_ ha1 ha2).mono ?_
  rintro e W' ⟨he, n, rfl⟩
  rw [ho] at he
  refine ⟨?_, h.step (below_drew W n), below_drew W n⟩
  rw [he]; cases o <;> rfl
theorem Mine.slabs {w W : World} {own : Own?} {c b : Nat} {C : Ca} {N : Nat} {L : List Blk} (h : Mine w own c b C N L W) :
    Calls Try.prog 14 #[.pointer (some ⟨c, 0, none⟩)] W fun e W' => (∃ A cp, e = .returned (.tuple #[.slice A C.sl.length cp, .int .i64 0]) ∧ W'.ownsRow W.heap.size 39 2 (.slice A C.sl.length cp) C.sl.length (viewS C.sl)) ∧ Mine w own c b C N L W' ∧ Below W.heap.size W W' :=
  (slabsS_ok W own c b C N L h.held).mono fun _ _ ⟨he, hb⟩ => ⟨he, h.step hb, hb⟩
theorem Mine.objects {w W : World} {own : Own?} {c b : Nat} {C : Ca} {N : Nat} {L : List Blk} (h : Mine w own c b C N L W) :
    Calls Try.prog 19 #[.pointer (some ⟨c, 0, none⟩)] W fun e W' => (∃ A cp, e = .returned (.tuple #[.slice A (objC C).length cp, .int .i64 0]) ∧ W'.ownsRow W.heap.size 2 1 (.slice A (objC C).length cp) (objC C).length (n64 (objC C))) ∧ Mine w own c b C N L W' ∧ Below W.heap.size W W' :=
  (objects_ok W own c b C N L h.held).mono fun _ _ ⟨he, hb⟩ => ⟨he, h.step hb, hb⟩
theorem Mine.trim {w W : World} {own : Own?} {c b : Nat} {C : Ca} {N : Nat} {L : List Blk} (h : Mine w own c b C N L W) :
    Calls Try.prog 20 #[.pointer (some ⟨c, 0, none⟩)] W fun e W' => e = .returned (.tuple #[.int .i64 (emptyS C.sl : Int), .int .i64 0]) ∧ Mine w own c b (trimC C) N (trimL C L) W' ∧ Keeps own own W W' :=
  (trimS_ok W own c b C N L h.held).mono fun _ _ ⟨he, hH, hK⟩ => ⟨he, h.keeps hH hK, hK⟩
theorem Mine.capacity {w W : World} {own : Own?} {c b : Nat} {C : Ca} {N : Nat} {L : List Blk} (h : Mine w own c b C N L W) :
    Calls Try.prog 29 #[.pointer (some ⟨c, 0, none⟩)] W fun e W' => e = .returned (.tuple #[.int .i64 (capa C.size C.order : Int), .int .i64 0]) ∧ Mine w own c b C N L W' ∧ Below W.heap.size W W' := by
  obtain ⟨A, cap, R, hC⟩ := h.held.at_
  obtain ⟨c0, c1, c2, _⟩ := six_cells hC.cell
  refine (capacityS_ok W c C.size C.order _ c0 rfl c1 c2 h.held.ok.sz.1 h.held.ok.od).mono ?_
  rintro e W' ⟨he, n, rfl⟩
  exact ⟨he, h.step (below_drew W n), below_drew W n⟩
/-- A new cache. -/
theorem Mine.new {w W : World} {b N : Nat} {size order keep : Int} (hB : BuL W b N []) (hw : Below w.heap.size w W) (hb : w.heap.size ≤ b) (hs : sizesB size order keep = true) :
    Calls Try.prog 16 #[.pointer (some ⟨b, 0, none⟩), .int .i64 size, .int .i64 order, .int .i64 keep] W fun e W' => ∃ (c s o k : Nat) (own : Own?), size = (s : Int) ∧ order = (o : Int) ∧ keep = (k : Int) ∧ e = .returned (.tuple #[.pointer (some ⟨c, 0, none⟩), .int .i64 0]) ∧ Mine w own c b ⟨s, o, k, []⟩ N [] W' := by
  refine (newC_ok W b N [] size order keep hB).mono ?_
  intro e W' hr
  unfold NewC at hr
  rw [if_pos hs] at hr
  obtain ⟨c, s, o, k, own, h1, h2, h3, h4, h5, h6, h7, h8⟩ := hr
  refine ⟨c, s, o, k, own, h1, h2, h3, h4, h5, hw.trans (h8.mono hw.size), fun z hz => h6 z (by have := hw.size; omega) (by omega)⟩
theorem Mine.bad {w : World} {b N : Nat} {size order keep : Int} (hB : BuL w b N []) (hs : sizesB size order keep = false) :
    Calls Try.prog 16 #[.pointer (some ⟨b, 0, none⟩), .int .i64 size, .int .i64 order, .int .i64 keep] w fun e w' => e = .returned (.tuple #[.pointer none, .int .i64 7]) ∧ Below w.heap.size w w' := by
  refine (newC_ok w b N [] size order keep hB).mono ?_
  intro e w' hr
  unfold NewC at hr
  rw [if_neg (by rw [hs]; simp)] at hr
  exact hr
end Sl
end Go.Proofs.Ytlknhbcambdccaa
namespace Go.Proofs.Ytlknhbcambdccaa
namespace Bu
open Go.ChangeShapes Go.WideShapes Go.ChangeAt Go.RowKit Go.Deep Go.Joins
section
variable {H : Type} {enc : TypeId × Value → H} {W : World} {v : Value} {d : DataW H} {p : List MemPlace}
theorem open_blocks2 {fuel : Nat} {cs : List Value} {x : DataW H × List MemPlace} (hf : DataW.trod enc Try.prog W 0 (fun _ => true) true fuel 44 cs = some x) :
    ∃ (A : Option Addr) (c : Nat) (l : List (Int × Int)), cs = [.slice A l.length c] ∧ ZAt W A c l ∧ (A = none → c = 0) := by
  obtain ⟨A, c, l, h1, h2⟩ := open_blocks hf
  refine ⟨A, c, l, h1, h2, ?_⟩
  rintro rfl
  rcases open_slice_fields Try.underlying44 Try.underlying126 (by kernel_rfl) (by kernel_rfl) hf with ⟨hcs, _⟩ | ⟨a, len, cap, m, D, Pl, hcs, _⟩
  · rw [h1] at hcs
    injection hcs with hcs
    injection hcs
  · rw [h1] at hcs
    injection hcs with hcs
    injection hcs with hcs
    cases hcs

set_option maxRecDepth 100000 in
theorem open_state2 {r : Reach} {b0 : Nat} (hv : Value.okWide Try.prog W r b0 46 v) (h : DataW.Trod enc Try.prog W 0 (fun _ => true) true 46 v d p) :
    ∃ (N : Int) (A : Option Addr) (c : Nat) (l : List (Int × Int)), v = sv N A l.length c ∧ ZAt W A c l ∧ (A = none → c = 0) := by
  obtain ⟨v0, v1, y0, y1, n, rfl, t0, t1⟩ := open_agg2f Try.underlying46 (by kernel_rfl) (by kernel_rfl) hv h
  obtain ⟨N, e0, _, _⟩ := DataW.trod_int Try.underlying3 t0
  obtain ⟨A, c, l, e1, hl, hn⟩ := open_blocks2 t1
  simp only [List.cons.injEq, and_true] at e0 e1
  subst e0 e1
  exact ⟨N, A, c, l, rfl, hl, hn⟩
end
end Bu
end Go.Proofs.Ytlknhbcambdccaa
