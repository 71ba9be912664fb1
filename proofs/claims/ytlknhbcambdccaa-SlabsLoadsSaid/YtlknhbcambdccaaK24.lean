/- Alloc of a cache, whole. A cache that a call made itself: what its calls do. The arguments, once more: a nil slice has no capacity. A slice of blocks appended to a slice of the call's own, in a region that draws its order; blocks that are freed one by one. -/
import Derived.Test.YtlknhbcambdccaaK23
import Derived.Test.YtlknhbcambdccaaK20
import Derived.Test.YtlknhbcambdccaaK21
import Derived.Test.YtlknhbcambdccaaK22
import Derived.Test.YtlknhbcambdccaaK12
import Derived.Test.YtlknhbcambdccaaK13
import Derived.Test.YtlknhbcambdccaaK14
import Derived.Deep.RegionLaw
import Derived.Deep.Slices
import Derived.ChangeSlices
namespace Go.Proofs.Ytlknhbcambdccaa
open Go.RowKit
namespace Sl
open Bu

/-- What Alloc leaves. -/
def AllocR (own : Own?) (c b : Nat) (C : Ca) (N : Nat) (L : List Blk) (w : World) (e : Ending) (w' : World) : Prop :=
  match allocC C N L with
  | none => e = .returned (.tuple #[.int .i64 0, .int .i64 5]) ∧ Held w' own c b C N L ∧ Keeps own own w w'
  | some (a, sl, L') => e = .returned (.tuple #[.int .i64 (a : Int), .int .i64 0]) ∧ ∃ own', Held w' own' c b { C with sl := sl } N L' ∧ Keeps own own' w w'

theorem allocS_ok (w : World) (own : Own?) (c b : Nat) (C : Ca) (N : Nat) (L : List Blk) (H : Held w own c b C N L) :
    Calls Try.prog 12 #[.pointer (some ⟨c, 0, none⟩)] w fun e w' => AllocR own c b C N L w e w' := by
  unfold AllocR allocC
  cases hp : pickS 0 none C.sl with
  | some jm =>
    obtain ⟨j, m⟩ := jm
    obtain ⟨x, hx, _⟩ := pickS_some (l := C.sl) (k := C.sl.length) (Nat.le_refl _) (by rw [List.take_length]; exact hp)
    simp only [hx]
    exact (alloc_some w own c b C N L H j m x hp hx).mono fun e w' ⟨he, hH, hK⟩ => ⟨he, own, hH, hK⟩
  | none =>
    cases ha : allocB N L C.order with
    | none => exact alloc_full w own c b C N L H hp ha
    | some pl =>
      obtain ⟨p, L'⟩ := pl
      exact alloc_new w own c b C N L H p L' hp ha
end Sl
end Go.Proofs.Ytlknhbcambdccaa
namespace Go.Proofs.Ytlknhbcambdccaa
open Go.RowKit
namespace Sl
open Bu

/-- A cache, and its allocator, of blocks that did not lie in w. -/
structure Mine (w : World) (own : Own?) (c b : Nat) (C : Ca) (N : Nat) (L : List Blk) (W : World) : Prop where
  held : Held W own c b C N L
  below : Below w.heap.size w W
  out : ∀ z, z < w.heap.size → own z = none

theorem Mine.keeps {w W W' : World} {own own' : Own?} {c b : Nat} {C C' : Ca} {N : Nat} {L L' : List Blk} (h : Mine w own c b C N L W) (hH : Held W' own' c b C' N L') (hK : Keeps own own' W W') : Mine w own' c b C' N L' W' := by
  have hb := h.below
  have hs := hb.size
  exact ⟨hH, ⟨hK.os.trans hb.os, hK.tape.trans hb.tape, hK.output.trans hb.output, Nat.le_trans hs hK.size, fun z hz => (hK.block z (by omega) (h.out z hz)).trans (hb.block z hz)⟩, fun z hz => (hK.same z (by omega)).trans (h.out z hz)⟩
theorem Mine.step {w W W' : World} {own : Own?} {c b : Nat} {C : Ca} {N : Nat} {L : List Blk} (h : Mine w own c b C N L W) (hb : Below W.heap.size W W') : Mine w own c b C N L W' :=
  h.keeps (h.held.below hb) (.of_below own hb)
theorem below_drew (W : World) (n : Nat) : Below W.heap.size W (W.drewN n) := below_drewN (Below.refl _ _) n

def ownerV : Option (Nat × Bool) → Value
  | none => .tuple #[.int .i64 0, .bool false, .int .i64 4]
  | some (a, v) => .tuple #[.int .i64 (a : Int), .bool v, .int .i64 0]

/-- Only blocks of one's own are written. -/
theorem Mine.alloc {w W : World} {own : Own?} {c b : Nat} {C : Ca} {N : Nat} {L : List Blk} (h : Mine w own c b C N L W) {a : Nat} {sl : List Slb} {L' : List Blk} (ha : allocC C N L = some (a, sl, L')) :
    Calls Try.prog 12 #[.pointer (some ⟨c, 0, none⟩)] W fun e W' => e = .returned (.tuple #[.int .i64 (a : Int), .int .i64 0]) ∧ ∃ own', Mine w own' c b { C with sl := sl } N L' W' ∧ Keeps own own' W W' := by
  refine (allocS_ok W own c b C N L h.held).mono ?_
  intro e W' hr
  unfold AllocR at hr
  rw [ha] at hr
  obtain ⟨he, own', hH, hK⟩ := hr
  exact ⟨he, own', h.keeps hH hK, hK⟩
theorem Mine.full {w W : World} {own : Own?} {c b : Nat} {C : Ca} {N : Nat} {L : List Blk} (h : Mine w own c b C N L W) (ha : allocC C N L = none) :
    Calls Try.prog 12 #[.pointer (some ⟨c, 0, none⟩)] W fun e W' => e = .returned (.tuple #[.int .i64 0, .int .i64 5]) ∧ Mine w own c b C N L W' ∧ Keeps own own W W' := by
  refine (allocS_ok W own c b C N L h.held).mono ?_
  intro e W' hr
  unfold AllocR at hr
  rw [ha] at hr
  obtain ⟨he, hH, hK⟩ := hr
  exact ⟨he, h.keeps hH hK, hK⟩
theorem Mine.free {w W : World} {own : Own?} {c b : Nat} {C : Ca} {N : Nat} {L : List Blk} (h : Mine w own c b C N L W) {at_ : Int} (ha1 : -9223372036854775808 ≤ at_) (ha2 : at_ < 9223372036854775808) {n : Nat} {sl : List Slb} {L' : List Blk} (hf : freeC C L at_ = (n, sl, L')) :
    Calls Try.prog 11 #[.pointer (some ⟨c, 0, none⟩), .int .i64 at_] W fun e W' => e = .returned (.int .i64 (n : Int)) ∧ Mine w own c b { C with sl := sl } N L' W' ∧ Keeps own own W W' := by
  refine (freeS_ok W own c b C N L h.held at_ ha1 ha2).mono ?_
  intro e W' hr
  unfold FreeS at hr
  rw [hf] at hr
  obtain ⟨he, hH, hK⟩ := hr
  exact ⟨he, h.keeps hH hK, hK⟩
theorem Mine.owner {w W : World} {own : Own?} {c b : Nat} {C : Ca} {N : Nat} {L : List Blk} (h : Mine w own c b C N L W) {at_ : Int} (ha1 : -9223372036854775808 ≤ at_) (ha2 : at_ < 9223372036854775808) {o : Option (Nat × Bool)} (ho : ownerC C at_ = o) :
    Calls Try.prog 13 #[.pointer (some ⟨c, 0, none⟩), .int .i64 at_] W fun e W' => e = .returned (ownerV o) ∧ Mine w own c b C N L W' ∧ Below W.heap.size W W' := by
  refine (ownerS_ok W own c b C N L h.held at_ ha1 ha2).mono ?_
  rintro e W' ⟨he, n, rfl⟩
  rw [ho] at he
  refine ⟨?_, h.step (below_drew W n), below_drew W n⟩
  rw [he]; cases o <;> rfl
theorem Mine.slabs {w W : World} {own : Own?} {c b : Nat} {C : Ca} {N : Nat} {L : List Blk} (h : Mine w own c b C N L W) :
    Calls Try.prog 14 #[.pointer (some ⟨c, 0, none⟩)] W fun e W' => (∃ A cp, e = .returned (.tuple #[.slice A C.sl.length cp, .int .i64 0]) ∧ W'.ownsRow W.heap.size 39 2 (.slice A C.sl.length cp) C.sl.length (viewS C.sl)) ∧ Mine w own c b C N L W' ∧ Below W.heap.size W W' :=
  (slabsS_ok W own c b C N L h.held).mono fun _ _ ⟨he, hb⟩ => ⟨he, h.step hb, hb⟩
theorem Mine.objects {w W : World} {own : Own?} {c b : Nat} {C : Ca} {N : Nat} {L : List Blk} (h : Mine w own c b C N L W) :
    Calls Try.prog 19 #[.pointer (some ⟨c, 0, none⟩)] W fun e W' => (∃ A cp, e = .returned (.tuple #[.slice A (objC C).length cp, .int .i64 0]) ∧ W'.ownsRow W.heap.size 2 1 (.slice A (objC C).length cp) (objC C).length (n64 (objC C))) ∧ Mine w own c b C N L W' ∧ Below W.heap.size W W' :=
  (objects_ok W own c b C N L h.held).mono fun _ _ ⟨he, hb⟩ => ⟨he, h.step hb, hb⟩
theorem Mine.trim {w W : World} {own : Own?} {c b : Nat} {C : Ca} {N : Nat} {L : List Blk} (h : Mine w own c b C N L W) :
    Calls Try.prog 20 #[.pointer (some ⟨c, 0, none⟩)] W fun e W' => e = .returned (.tuple #[.int .i64 (emptyS C.sl : Int), .int .i64 0]) ∧ Mine w own c b (trimC C) N (trimL C L) W' ∧ Keeps own own W W' :=
  (trimS_ok W own c b C N L h.held).mono fun _ _ ⟨he, hH, hK⟩ => ⟨he, h.keeps hH hK, hK⟩
theorem Mine.capacity {w W : World} {own : Own?} {c b : Nat} {C : Ca} {N : Nat} {L : List Blk} (h : Mine w own c b C N L W) :
    Calls Try.prog 29 #[.pointer (some ⟨c, 0, none⟩)] W fun e W' => e = .returned (.tuple #[.int .i64 (capa C.size C.order : Int), .int .i64 0]) ∧ Mine w own c b C N L W' ∧ Below W.heap.size W W' := by
  obtain ⟨A, cap, R, hC⟩ := h.held.at_
  obtain ⟨c0, c1, c2, _⟩ := six_cells hC.cell
  refine (capacityS_ok W c C.size C.order _ c0 rfl c1 c2 h.held.ok.sz.1 h.held.ok.od).mono ?_
  rintro e W' ⟨he, n, rfl⟩
  exact ⟨he, h.step (below_drew W n), below_drew W n⟩
/-- A new cache. -/
theorem Mine.new {w W : World} {b N : Nat} {size order keep : Int} (hB : BuL W b N []) (hw : Below w.heap.size w W) (hb : w.heap.size ≤ b) (hs : sizesB size order keep = true) :
    Calls Try.prog 16 #[.pointer (some ⟨b, 0, none⟩), .int .i64 size, .int .i64 order, .int .i64 keep] W fun e W' => ∃ (c s o k : Nat) (own : Own?), size = (s : Int) ∧ order = (o : Int) ∧ keep = (k : Int) ∧ e = .returned (.tuple #[.pointer (some ⟨c, 0, none⟩), .int .i64 0]) ∧ Mine w own c b ⟨s, o, k, []⟩ N [] W' := by
  refine (newC_ok W b N [] size order keep hB).mono ?_
  intro e W' hr
  unfold NewC at hr
  rw [if_pos hs] at hr
  obtain ⟨c, s, o, k, own, h1, h2, h3, h4, h5, h6, h7, h8⟩ := hr
  refine ⟨c, s, o, k, own, h1, h2, h3, h4, h5, hw.trans (h8.mono hw.size), fun z hz => h6 z (by have := hw.size; omega) (by omega)⟩
theorem Mine.bad {w : World} {b N : Nat} {size order keep : Int} (hB : BuL w b N []) (hs : sizesB size order keep = false) :
    Calls Try.prog 16 #[.pointer (some ⟨b, 0, none⟩), .int .i64 size, .int .i64 order, .int .i64 keep] w fun e w' => e = .returned (.tuple #[.pointer none, .int .i64 7]) ∧ Below w.heap.size w w' := by
  refine (newC_ok w b N [] size order keep hB).mono ?_
  intro e w' hr
  unfold NewC at hr
  rw [if_neg (by rw [hs]; simp)] at hr
  exact hr
end Sl
end Go.Proofs.Ytlknhbcambdccaa
namespace Go.Proofs.Ytlknhbcambdccaa
namespace Bu
open Go.ChangeShapes Go.WideShapes Go.ChangeAt Go.RowKit Go.Deep Go.Joins
section
variable {H : Type} {enc : TypeId × Value → H} {W : World} {v : Value} {d : DataW H} {p : List MemPlace}
theorem open_blocks2 {fuel : Nat} {cs : List Value} {x : DataW H × List MemPlace} (hf : DataW.trod enc Try.prog W 0 (fun _ => true) true fuel 44 cs = some x) :
    ∃ (A : Option Addr) (c : Nat) (l : List (Int × Int)), cs = [.slice A l.length c] ∧ ZAt W A c l ∧ (A = none → c = 0) := by
  obtain ⟨A, c, l, h1, h2⟩ := open_blocks hf
  refine ⟨A, c, l, h1, h2, ?_⟩
  rintro rfl
  rcases open_slice_fields Try.underlying44 Try.underlying126 (by kernel_rfl) (by kernel_rfl) hf with ⟨hcs, _⟩ | ⟨a, len, cap, m, D, Pl, hcs, _⟩
  · rw [h1] at hcs
    injection hcs with hcs
    injection hcs
  · rw [h1] at hcs
    injection hcs with hcs
    injection hcs with hcs
    cases hcs

set_option maxRecDepth 100000 in
theorem open_state2 {r : Reach} {b0 : Nat} (hv : Value.okWide Try.prog W r b0 46 v) (h : DataW.Trod enc Try.prog W 0 (fun _ => true) true 46 v d p) :
    ∃ (N : Int) (A : Option Addr) (c : Nat) (l : List (Int × Int)), v = sv N A l.length c ∧ ZAt W A c l ∧ (A = none → c = 0) := by
  obtain ⟨v0, v1, y0, y1, n, rfl, t0, t1⟩ := open_agg2f Try.underlying46 (by kernel_rfl) (by kernel_rfl) hv h
  obtain ⟨N, e0, _, _⟩ := DataW.trod_int Try.underlying3 t0
  obtain ⟨A, c, l, e1, hl, hn⟩ := open_blocks2 t1
  simp only [List.cons.injEq, and_true] at e0 e1
  subst e0 e1
  exact ⟨N, A, c, l, rfl, hl, hn⟩
end
end Bu
end Go.Proofs.Ytlknhbcambdccaa
namespace Go.Proofs.Ytlknhbcambdccaa
open Go.RowKit
namespace Bu

set_option maxRecDepth 100000 in
theorem run_append_blk (w : World) (ty : TypeId) (base : Nat) (v : Value) (X : List Blk) (hown : w.ownsRow base 126 2 v X.length (cellsL X))
    (A : Option Addr) (c : Nat) (M : List Blk) (hM : BlkAt w A c M) (hn : A = none → c = 0) (hlen : X.length + M.length ≤ 100000) (hbase : base ≤ w.heap.size) :
    ∃ A' c' w', (Builtin.append_ #[44, 44] ty #[v, .slice A M.length c]).run Try.prog w = .ok (.slice A' (X ++ M).length c') w' ∧ Own w' base A' c' (X ++ M) ∧ w.grownBy w' v.ownBlock := by
  obtain ⟨i0, z0, hi0, hz0, hz1, hz2, hz3⟩ := info_open block_info
  have hcl : cellsL (X ++ M) = cellsL X ++ cellsL M := by simp [cellsL]
  cases A with
  | none =>
    obtain rfl := hn rfl
    have hM0 : M = [] := List.length_eq_zero_iff.1 (by have := hM.len.1; omega)
    subst hM0
    have hrun := run_append_owned_none (P := Try.prog) (w := w) base 44 ty 126 i0 2 Try.underlying44 hi0 v X.length (cellsL X) hown
    obtain ⟨A', c', rfl⟩ := own_value hown
    rw [List.append_nil]
    exact ⟨A', c', w, hrun, hown, grown_refl _ _⟩
  | some ad =>
    obtain ⟨v', w', hr, h2, h3, _⟩ := run_append_own (P := Try.prog) w base 44 ty 126 i0 z0 2 16 Try.underlying44 hi0 hz0 hz1 hz2 hz3 (by omega) v X.length (cellsL X) hown ad M.length c (cellsL M) (cellsL_len M) (blk_addr hM) (cellsL_one M) (by unfold maxLen; omega) (by omega) hbase
    rw [← List.length_append, ← hcl] at h2
    obtain ⟨A', c', rfl⟩ := own_value h2
    exact ⟨A', c', w', hr, h2, h3⟩

theorem step_append_blk {w : World} {ops : Array Oper} {o : Oper} {a : Act} {K : Act → World → Prop} {Q : Exit → Act → World → Prop} {E : Prop} (hgd : o.guard = none) (s x : Operand)
    (ho : o.op = .call { callee := .builtin .append, args := #[s, x], argTypes := #[44, 44] })
    (base : Nat) (v : Value) (X : List Blk) (hs : a.eval s = v) (hown : w.ownsRow base 126 2 v X.length (cellsL X))
    (A : Option Addr) (c : Nat) (M : List Blk) (hx : a.eval x = .slice A M.length c) (hM : BlkAt w A c M) (hn : A = none → c = 0) (hlen : X.length + M.length ≤ 100000) (hbase : base ≤ w.heap.size)
    (h : ∀ A' c' w', Own w' base A' c' (X ++ M) → w.grownBy w' v.ownBlock → K (a.put o.dst (.slice A' (X ++ M).length c')) w') :
    if Region.wanted o (yielded ops a.tmps) = true then Oper.wp Try.prog o a w K Q else E := by
  have hw : Region.wanted o (yielded ops a.tmps) = true := by simp [Region.wanted, hgd]
  rw [if_pos hw]
  obtain ⟨A', c', w', hrun, h1, h2⟩ := run_append_blk w o.type base v X hown A c M hM hn hlen hbase
  unfold Oper.wp
  simp only [execOp, ho, resolve, invoke, builtin, Sem.run_bind, Sem.run_pure, Result.andThen_ok, List.map_toArray, List.map_cons, List.map_nil, hs, hx, hrun]
  exact h A' c' w' h1 h2

/-- A part of a slice. -/
theorem blk_drop {w : World} {g o c k : Nat} {M : List Blk} (h : BlkAt w (some ⟨g, o, none⟩) c M) (hk : k ≤ M.length) : BlkAt w (some ⟨g, o + k * 2, none⟩) (c - k) (M.drop k) := by
  obtain ⟨h1, h2⟩ := h.len
  refine ⟨by simp; omega, by omega, fun j z hz => ?_⟩
  rw [List.getElem?_map, List.getElem?_drop, Option.map_eq_some_iff] at hz
  obtain ⟨x, hx, rfl⟩ := hz
  obtain ⟨g', o', hA, hg, d1, d2⟩ := h.at hx
  injection hA with hA; injection hA with e1 e2
  subst e1; subst e2
  have e : o + (k + j) * 2 = o + k * 2 + j * 2 := by omega
  rw [e] at d1 d2
  exact ⟨g, o + k * 2, rfl, hg, d1, d2⟩
theorem blk_take {w : World} {A : Option Addr} {c k : Nat} {M : List Blk} (h : BlkAt w A c M) : BlkAt w A c (M.take k) := by
  obtain ⟨h1, h2⟩ := h.len
  refine ⟨by simp; omega, by omega, fun j z hz => ?_⟩
  rw [List.getElem?_map, Option.map_eq_some_iff] at hz
  obtain ⟨x, hx, rfl⟩ := hz
  rw [List.getElem?_take] at hx
  split at hx
  · exact h.at hx
  · cases hx

theorem own_some {w : World} {B c : Nat} {A : Option Addr} {M : List Blk} (h : Own w B A c M) (hp : 0 < M.length) : ∃ g, A = some ⟨g, 0, none⟩ ∧ B ≤ g ∧ g < w.heap.size := by
  rcases h.2 with ⟨_, h0⟩ | ⟨g, cap, cur, hv, hB, hg, _⟩
  · omega
  · injection hv with h1 h2 h3
    exact ⟨g, h1, hB, lt_of_heap hg⟩

theorem own_low {w : World} {B B' c : Nat} {A : Option Addr} {M : List Blk} (h : Own w B A c M) (hB : B' ≤ B) : Own w B' A c M := by
  refine ⟨h.1, ?_⟩
  rcases h.2 with hn | ⟨g, cap, cur, hv, hb, r⟩
  · exact .inl hn
  · exact .inr ⟨g, cap, cur, hv, by omega, r⟩
theorem blk_lit1 (w : World) (a b : Nat) : BlkAt (w.alloc (.cells #[.int .i64 (a : Int), .int .i64 (b : Int)] 126)) (some ⟨w.heap.size, 0, none⟩) 1 [(a, b)] := by
  have h : (w.alloc (.cells #[.int .i64 (a : Int), .int .i64 (b : Int)] 126)).heap[w.heap.size]? = some (.cells #[.int .i64 (a : Int), .int .i64 (b : Int)] 126 (0, 0)) := by rw [heapAlloc, if_pos rfl]
  refine ⟨Nat.le_refl _, by unfold maxLen; omega, fun j x hx => ⟨w.heap.size, 0, rfl, by simp, ?_⟩⟩
  rw [cell_of_row _ _ _ _ _ _ h, cell_of_row _ _ _ _ _ _ h]
  match j, hx with
  | 0, hx => injection hx with hx; subst hx; exact ⟨rfl, rfl⟩
  | j + 1, hx => simp at hx

def lenOf : Value → Nat
  | .slice _ n _ => n
  | _ => 0

/-! Freed one by one. -/
theorem asc_nodup {L : List Blk} (h : L.Pairwise fun a b => a.1 + 2 ^ a.2 ≤ b.1) : L.Nodup :=
  h.imp fun {a b} hab e => by subst e; have := pow_pos2 a.2; omega
theorem filter_ne_self {x : Blk} : ∀ {L : List Blk}, x ∉ L → (L.filter fun y => y != x) = L := fun {L} h => List.filter_eq_self.2 fun y hy => by rw [bne_iff_ne]; intro e; exact h (e ▸ hy)
theorem delB_at {N : Nat} {M : List Blk} (hS : St N M) {k : Nat} {x : Blk} (hx : M[k]? = some x) : delB M x = M.take k ++ M.drop (k + 1) := by
  obtain ⟨hk, he⟩ := List.getElem?_eq_some_iff.1 hx
  have hnd := asc_nodup hS.asc
  have hM : M = M.take k ++ x :: M.drop (k + 1) := by
    have := List.take_append_drop k M
    rw [List.drop_eq_getElem_cons hk, he] at this
    exact this.symm
  have hnd2 : (M.take k ++ x :: M.drop (k + 1)).Nodup := by rw [← hM]; exact hnd
  rw [List.nodup_append] at hnd2
  obtain ⟨n1, n2, n3⟩ := hnd2
  rw [List.nodup_cons] at n2
  have h1 : x ∉ M.take k := fun h => n3 x h x (List.mem_cons_self ..) rfl
  unfold delB
  conv => lhs; rw [hM]
  rw [List.filter_append, List.filter_cons, filter_ne_self h1, filter_ne_self n2.1]
  simp
theorem blocks_none (N : Nat) (hN : N ≤ 10) : blocksB N [] = [(0, N)] := by
  have hS := st_nil hN
  refine asc_eq (asc_lt (blocks_asc hS)) (by simp) fun x => ?_
  have hfree : ∀ (k i : Nat), Free (LG []) k i := fun k i z _ ⟨j, hj⟩ => by unfold LG at hj; cases hj
  rw [mem_blocks hS, List.mem_singleton]
  constructor
  · rintro ⟨h1, h2, h3, h4, h5⟩
    obtain ⟨p, n⟩ := x
    dsimp only at h1 h2 h3 h4 h5
    have hn : n = N := h5.resolve_right fun h => h (hfree _ _)
    subst hn
    rw [Nat.sub_self] at h3
    have := mul_div h1
    have h3 : p / 2 ^ n = 0 := by simpa using h3
    rw [h3, Nat.zero_mul] at this
    rw [← this]
  · rintro rfl
    exact ⟨by simp, Nat.le_refl _, by simp, hfree _ _, .inl rfl⟩
theorem put_del {N n p : Nat} {L L' : List Blk} (hS : St N L) (ha : allocB N L n = some (p, L')) : (p, n) ∈ L' ∧ InB N (p, n) ∧ delB L' (p, n) = L := by
  obtain ⟨j, k, hj, hnk, hin, hf, hnN, _⟩ := alloc_found hS ha
  have hL' : L' = putB L (p, n) := by
    unfold allocB at ha
    cases e : bestOf n none (blocksB N L) with
    | none => rw [e] at ha; simp at ha
    | some x =>
      rw [e, Option.map_some, Option.some.injEq, Prod.mk.injEq] at ha
      rw [← ha.2, ← ha.1]
  subst hL'
  have hS' := alloc_st hS ha
  refine ⟨mem_putB.2 (.inl rfl), hin, ?_⟩
  have hfr := (freeB_iff hS.inb hin.2.1).1 hf
  have hni : (p, n) ∉ L := fun hm => by
    rcases disj_of hS.inb hin hfr hm with h | h <;> (have := pow_pos2 n; simp only at h; omega)
  refine asc_eq (asc_lt hS'.del.asc) (asc_lt hS.asc) fun z => ?_
  rw [mem_delB, mem_putB]
  constructor
  · rintro ⟨h1 | h1, h2⟩
    · exact absurd h1 h2
    · exact h1
  · intro h
    exact ⟨.inr h, fun e => hni (e ▸ h)⟩

/-! Numbers of 16 bits. -/
def U16At (w : World) (A : Option Addr) (c : Nat) (T : List Nat) : Prop :=
  T.length ≤ c ∧ c ≤ maxLen ∧ ∀ (j x : Nat), T[j]? = some x → ∃ g o, A = some ⟨g, o, none⟩ ∧ g < w.heap.size ∧ w.cell? ⟨g, o + j, none⟩ = some (.int .u16 (x : Int)) ∧ x < 65536
section
variable {H : Type} {enc : TypeId × Value → H} {W : World} {v : Value} {d : DataW H} {p : List MemPlace}
open Go.ChangeShapes Go.WideShapes Go.ChangeAt Go.RowKit Go.Deep Go.Joins
end
end Bu
end Go.Proofs.Ytlknhbcambdccaa
