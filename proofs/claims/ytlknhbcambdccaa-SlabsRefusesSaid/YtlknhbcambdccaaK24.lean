/- Alloc of a cache, whole. A cache that a call made itself: what its calls do. The examples of the document: example, shown. The examples of the document: shown. -/
import Derived.Test.YtlknhbcambdccaaK23
import Derived.Test.YtlknhbcambdccaaK21
import Derived.Test.YtlknhbcambdccaaK19
import Derived.Test.YtlknhbcambdccaaK22
import Derived.Test.YtlknhbcambdccaaK12
namespace Go.Proofs.Ytlknhbcambdccaa
open Go.RowKit
namespace Sl
open Bu

/-- What Alloc leaves. -/
def AllocR (own : Own?) (c b : Nat) (C : Ca) (N : Nat) (L : List Blk) (w : World) (e : Ending) (w' : World) : Prop :=
  match allocC C N L with
  | none => e = .returned (.tuple #[.int .i64 0, .int .i64 5]) ∧ Held w' own c b C N L ∧ Keeps own own w w'
  | some (a, sl, L') => e = .returned (.tuple #[.int .i64 (a : Int), .int .i64 0]) ∧ ∃ own', Held w' own' c b { C with sl := sl } N L' ∧ Keeps own own' w w'

theorem allocS_ok (w : World) (own : Own?) (c b : Nat) (C : Ca) (N : Nat) (L : List Blk) (H : Held w own c b C N L) :
    Calls Try.prog 12 #[.pointer (some ⟨c, 0, none⟩)] w fun e w' => AllocR own c b C N L w e w' := by
  unfold AllocR allocC
  cases hp : pickS 0 none C.sl with
  | some jm =>
    obtain ⟨j, m⟩ := jm
    obtain ⟨x, hx, _⟩ := pickS_some (l := C.sl) (k := C.sl.length) (Nat.le_refl _) (by rw [List.take_length]; exact hp)
    simp only [hx]
    exact (alloc_some w own c b C N L H j m x hp hx).mono fun e w' ⟨he, hH, hK⟩ => ⟨he, own, hH, hK⟩
  | none =>
    cases ha : allocB N L C.order with
    | none => exact alloc_full w own c b C N L H hp ha
    | some pl =>
      obtain ⟨p, L'⟩ := pl
      exact alloc_new w own c b C N L H p L' hp ha
end Sl
end Go.Proofs.Ytlknhbcambdccaa
namespace Go.Proofs.Ytlknhbcambdccaa
open Go.RowKit
namespace Sl
open Bu

/-- A cache, and its allocator, of blocks that did not lie in w. -/
structure Mine (w : World) (own : Own?) (c b : Nat) (C : Ca) (N : Nat) (L : List Blk) (W : World) : Prop where
  held : Held W own c b C N L
  below : Below w.heap.size w W
  out : ∀ z, z < w.heap.size → own z = none

theorem Mine.keeps {w W W' : World} {own own' : Own?} {c b : Nat} {C C' : Ca} {N : Nat} {L L' : List Blk} (h : Mine w own c b C N L W) (hH : Held W' own' c b C' N L') (hK : Keeps own own' W W') : Mine w own' c b C' N L' W' := by
  have hb := h.below
  have hs := hb.size
  exact ⟨hH, ⟨hK.os.trans hb.os, hK.tape.trans hb.tape, hK.output.trans hb.output, Nat.le_trans hs hK.size, fun z hz => (hK.block z (by omega) (h.out z hz)).trans (hb.block z hz)⟩, fun z hz => (hK.same z (by omega)).trans (h.out z hz)⟩
theorem Mine.step {w W W' : World} {own : Own?} {c b : Nat} {C : Ca} {N : Nat} {L : List Blk} (h : Mine w own c b C N L W) (hb : Below W.heap.size W W') : Mine w own c b C N L W' :=
  h.keeps (h.held.below hb) (.of_below own hb)
theorem below_drew (W : World) (n : Nat) : Below W.heap.size W (W.drewN n) := below_drewN (Below.refl _ _) n

def ownerV : Option (Nat × Bool) → Value
  | none => .tuple #[.int .i64 0, .bool false, .int .i64 4]
  | some (a, v) => .tuple #[.int .i64 (a : Int), .bool v, .int .i64 0]

/-- Only blocks of one's own are written. -/
theorem Mine.alloc {w W : World} {own : Own?} {c b : Nat} {C : Ca} {N : Nat} {L : List Blk} (h : Mine w own c b C N L W) {a : Nat} {sl : List Slb} {L' : List Blk} (ha : allocC C N L = some (a, sl, L')) :
    Calls Try.prog 12 #[.pointer (some ⟨c, 0, none⟩)] W fun e W' => e = .returned (.tuple #[.int .i64 (a : Int), .int .i64 0]) ∧ ∃ own', Mine w own' c b { C with sl := sl } N L' W' ∧ Keeps own own' W W' := by
  refine (allocS_ok W own c b C N L h.held).mono ?_
  intro e W' hr
  unfold AllocR at hr
  rw [ha] at hr
  obtain ⟨he, own', hH, hK⟩ := hr
  exact ⟨he, own', h.keeps hH hK, hK⟩
theorem Mine.full {w W : World} {own : Own?} {c b : Nat} {C : Ca} {N : Nat} {L : List Blk} (h : Mine w own c b C N L W) (ha : allocC C N L = none) :
    Calls Try.prog 12 #[.pointer (some ⟨c, 0, none⟩)] W fun e W' => e = .returned (.tuple #[.int .i64 0, .int .i64 5]) ∧ Mine w own c b C N L W' ∧ Keeps own own W W' := by
  refine (allocS_ok W own c b C N L h.held).mono ?_
  intro e W' hr
  unfold AllocR at hr
  rw [ha] at hr
  obtain ⟨he, hH, hK⟩ := hr
  exact ⟨he, h.keeps hH hK, hK⟩
theorem Mine.free {w W : World} {own : Own?} {c b : Nat} {C : Ca} {N : Nat} {L : List Blk} (h : Mine w own c b C N L W) {at_ : Int} (ha1 : -9223372036854775808 ≤ at_) (ha2 : at_ < 9223372036854775808) {n : Nat} {sl : List Slb} {L' : List Blk} (hf : freeC C L at_ = (n, sl, L')) :
    Calls Try.prog 11 #[.pointer (some ⟨c, 0, none⟩), .int .i64 at_] W fun e W' => e = .returned (.int .i64 (n : Int)) ∧ Mine w own c b { C with sl := sl } N L' W' ∧ Keeps own own W W' := by
  refine (freeS_ok W own c b C N L h.held at_ ha1 ha2).mono ?_
  intro e W' hr
  unfold FreeS at hr
  rw [hf] at hr
  obtain ⟨he, hH, hK⟩ := hr
  exact ⟨he, h.keeps hH hK, hK⟩
theorem Mine.owner {w W : World} {own : Own?} {c b : Nat} {C : Ca} {N : Nat} {L : List Blk} (h : Mine w own c b C N L W) {at_ : Int} (ha1 : -9223372036854775808 ≤ at_) (ha2 : at_ < 9223372036854775808) {o : Option (Nat × Bool)} (ho : ownerC C at_ = o) :
    Calls Try.prog 13 #[.pointer (some ⟨c, 0, none⟩), .int .i64 at_] W fun e W' => e = .returned (ownerV o) ∧ Mine w own c b C N L W' ∧ Below W.heap.size W W' := by
  refine (ownerS_ok W own c b C N L h.held at_ ha1 ha2).mono ?_
  rintro e W' ⟨he, n, rfl⟩
  rw [ho] at he
  refine ⟨?_, h.step (below_drew W n), below_drew W n⟩
  rw [he]; cases o <;> rfl
theorem Mine.slabs {w W : World} {own : Own?} {c b : Nat} {C : Ca} {N : Nat} {L : List Blk} (h : Mine w own c b C N L W) :
    Calls Try.prog 14 #[.pointer (some ⟨c, 0, none⟩)] W fun e W' => (∃ A cp, e = .returned (.tuple #[.slice A C.sl.length cp, .int .i64 0]) ∧ W'.ownsRow W.heap.size 39 2 (.slice A C.sl.length cp) C.sl.length (viewS C.sl)) ∧ Mine w own c b C N L W' ∧ Below W.heap.size W W' :=
  (slabsS_ok W own c b C N L h.held).mono fun _ _ ⟨he, hb⟩ => ⟨he, h.step hb, hb⟩
theorem Mine.objects {w W : World} {own : Own?} {c b : Nat} {C : Ca} {N : Nat} {L : List Blk} (h : Mine w own c b C N L W) :
    Calls Try.prog 19 #[.pointer (some ⟨c, 0, none⟩)] W fun e W' => (∃ A cp, e = .returned (.tuple #[.slice A (objC C).length cp, .int .i64 0]) ∧ W'.ownsRow W.heap.size 2 1 (.slice A (objC C).length cp) (objC C).length (n64 (objC C))) ∧ Mine w own c b C N L W' ∧ Below W.heap.size W W' :=
  (objects_ok W own c b C N L h.held).mono fun _ _ ⟨he, hb⟩ => ⟨he, h.step hb, hb⟩
theorem Mine.trim {w W : World} {own : Own?} {c b : Nat} {C : Ca} {N : Nat} {L : List Blk} (h : Mine w own c b C N L W) :
    Calls Try.prog 20 #[.pointer (some ⟨c, 0, none⟩)] W fun e W' => e = .returned (.tuple #[.int .i64 (emptyS C.sl : Int), .int .i64 0]) ∧ Mine w own c b (trimC C) N (trimL C L) W' ∧ Keeps own own W W' :=
  (trimS_ok W own c b C N L h.held).mono fun _ _ ⟨he, hH, hK⟩ => ⟨he, h.keeps hH hK, hK⟩
theorem Mine.capacity {w W : World} {own : Own?} {c b : Nat} {C : Ca} {N : Nat} {L : List Blk} (h : Mine w own c b C N L W) :
    Calls Try.prog 29 #[.pointer (some ⟨c, 0, none⟩)] W fun e W' => e = .returned (.tuple #[.int .i64 (capa C.size C.order : Int), .int .i64 0]) ∧ Mine w own c b C N L W' ∧ Below W.heap.size W W' := by
  obtain ⟨A, cap, R, hC⟩ := h.held.at_
  obtain ⟨c0, c1, c2, _⟩ := six_cells hC.cell
  refine (capacityS_ok W c C.size C.order _ c0 rfl c1 c2 h.held.ok.sz.1 h.held.ok.od).mono ?_
  rintro e W' ⟨he, n, rfl⟩
  exact ⟨he, h.step (below_drew W n), below_drew W n⟩
/-- A new cache. -/
theorem Mine.new {w W : World} {b N : Nat} {size order keep : Int} (hB : BuL W b N []) (hw : Below w.heap.size w W) (hb : w.heap.size ≤ b) (hs : sizesB size order keep = true) :
    Calls Try.prog 16 #[.pointer (some ⟨b, 0, none⟩), .int .i64 size, .int .i64 order, .int .i64 keep] W fun e W' => ∃ (c s o k : Nat) (own : Own?), size = (s : Int) ∧ order = (o : Int) ∧ keep = (k : Int) ∧ e = .returned (.tuple #[.pointer (some ⟨c, 0, none⟩), .int .i64 0]) ∧ Mine w own c b ⟨s, o, k, []⟩ N [] W' := by
  refine (newC_ok W b N [] size order keep hB).mono ?_
  intro e W' hr
  unfold NewC at hr
  rw [if_pos hs] at hr
  obtain ⟨c, s, o, k, own, h1, h2, h3, h4, h5, h6, h7, h8⟩ := hr
  refine ⟨c, s, o, k, own, h1, h2, h3, h4, h5, hw.trans (h8.mono hw.size), fun z hz => h6 z (by have := hw.size; omega) (by omega)⟩
theorem Mine.bad {w : World} {b N : Nat} {size order keep : Int} (hB : BuL w b N []) (hs : sizesB size order keep = false) :
    Calls Try.prog 16 #[.pointer (some ⟨b, 0, none⟩), .int .i64 size, .int .i64 order, .int .i64 keep] w fun e w' => e = .returned (.tuple #[.pointer none, .int .i64 7]) ∧ Below w.heap.size w w' := by
  refine (newC_ok w b N [] size order keep hB).mono ?_
  intro e w' hr
  unfold NewC at hr
  rw [if_neg (by rw [hs]; simp)] at hr
  exact hr
end Sl
end Go.Proofs.Ytlknhbcambdccaa
namespace Go.Proofs.Ytlknhbcambdccaa
open Go.RowKit
namespace Sl
open Bu

def exS : Nat → List Slb
  | 0 => []
  | 1 => [⟨0, [true, false]⟩]
  | 2 => [⟨0, [true, true]⟩]
  | _ => [⟨0, [true, true]⟩, ⟨1, [true, false]⟩]
def exL : Nat → List Blk
  | 0 => []
  | 1 => [(0, 0)]
  | 2 => [(0, 0)]
  | _ => [(0, 0), (1, 0)]
def exA : Nat → Nat
  | 0 => 0
  | 1 => 24
  | _ => 64
def exC (k : Nat) : Ca := ⟨24, 0, 0, exS k⟩
theorem ex0 : allocC (exC 0) 3 (exL 0) = some (0, exS 1, exL 1) := by kernel_rfl
theorem ex1 : allocC (exC 1) 3 (exL 1) = some (24, exS 2, exL 2) := by kernel_rfl
theorem ex2 : allocC (exC 2) 3 (exL 2) = some (64, exS 3, exL 3) := by kernel_rfl
theorem ex_step : ∀ k, k < 3 → allocC (exC k) 3 (exL k) = some (exA k, exS (k + 1), exL (k + 1))
  | 0, _ => ex0
  | 1, _ => ex1
  | 2, _ => ex2
theorem ex_sizes : sizesB 24 0 0 = true := by kernel_rfl

theorem three_new (W : World) (x y z : Value) (T : TypeId) : (W.alloc (.cells #[x, y, z] T)).heap[W.heap.size]? = some (.cells #[x, y, z] T (0, 0)) := by rw [heapAlloc, if_pos rfl]

/-- What example leaves. -/
def ExR (w : World) (e : Ending) (w' : World) : Prop := ∃ own c b, e = .returned (.pointer (some ⟨c, 0, none⟩)) ∧ Mine w own c b (exC 3) 3 (exL 3) w'

set_option maxRecDepth 100000 in
set_option maxHeartbeats 4000000 in
theorem example_ok (w : World) : Calls Try.prog 10 #[] w fun e w' => ExR w e w' := by
  have HN := Lib.hid (newL_ok w 3 (by decide))
  have HC := Lib.hid (fun (W : World) (h1 : BuL W w.heap.size 3 []) (h2 : Below w.heap.size w W) => Mine.new (size := 24) (order := 0) (keep := 0) h1 h2 (Nat.le_refl _) ex_sizes)
  go_enter Try.func10, Try.ntmps10
  go_wp2_with (go_at_call 15; fail)
  refine HN.out.mono ?_
  rintro e W1 ⟨rfl, hB1, hb1⟩
  have HC1 := Lib.hid (HC.out W1 hB1 hb1)
  clear hB1 hb1
  go_wp2_with (go_at_call 16; fail)
  refine HC1.out.mono ?_
  rintro e W2 ⟨c, s, o, k, own, hs, ho, hk, rfl, hM⟩
  have hM2 : Mine w own c w.heap.size (exC 0) 3 (exL 0) W2 := by
    have e1 : s = 24 := by omega
    have e2 : o = 0 := by omega
    have e3 : k = 0 := by omega
    subst e1; subst e2; subst e3
    exact hM
  have HM := Lib.hid hM2
  clear hs ho hk hM hM2 HC1 HN HC
  go_wp2_with (fail)
  obtain ⟨W3, hW3⟩ : ∃ W3, W3 = W2.alloc (.cells #[.int .i64 0, .int .i64 24, .int .i64 64] 96) := ⟨_, rfl⟩
  have hb3 : Below W2.heap.size W2 W3 := by rw [hW3]; exact below_box _ _
  have hM3 := HM.out.step hb3
  have hn3 : own W2.heap.size = none := by
    refine Classical.byContradiction fun hn => ?_
    have := HM.out.held.fresh _ hn
    omega
  have ha3 : W3.heap[W2.heap.size]? = some (.cells #[.int .i64 0, .int .i64 24, .int .i64 64] 96 (0, 0)) := by rw [hW3]; exact three_new _ _ _ _ _
  generalize W2.heap.size = na at *
  rw [← hW3]
  have H3 := Lib.hid (And.intro hM3 (And.intro hn3 ha3))
  clear hW3 hb3 hM3 hn3 ha3
  go_loopw [6] (fun i wr => ∃ (k : Nat) (own : Own?), k ≤ 3 ∧ i = .int .i64 (k : Int) ∧ Mine w own c w.heap.size (exC k) 3 (exL k) wr ∧ own na = none ∧ wr.heap[na]? = some (.cells #[.int .i64 0, .int .i64 24, .int .i64 64] 96 (0, 0))) (fun i _ => 3 - (intOf i).toNat)
  case atStart => exact ⟨0, own, by omega, rfl, H3.out.1, H3.out.2.1, H3.out.2.2⟩
  case round =>
    obtain ⟨k, own, hk, rfl, hM, hna, har⟩ := hrel
    have e0 : (0 : Int) ≤ (k : Int) := by omega
    by_cases hlt : k < 3
    · have e1 : (k : Int) < 3 := by omega
      have hkk : IntKind.i64.wrap ((k : Int) + 1) = ((k + 1 : Nat) : Int) := by rw [IntWalk.i64_in _ (by omega)]; rfl
      have hal := hM.alloc (ex_step k hlt)
      have hcell : ∀ W : World, W.heap[na]? = some (.cells #[.int .i64 0, .int .i64 24, .int .i64 64] 96 (0, 0)) → W.cell? ⟨na, k, none⟩ = some (.int .i64 (exA k : Int)) := fun W hW => by
        rw [cell_of_row _ _ _ _ _ _ hW]
        match k, hlt with
        | 0, _ => rfl
        | 1, _ => rfl
        | 2, _ => rfl
      obtain ⟨ak, hak⟩ : ∃ ak, ak = exA k := ⟨_, rfl⟩
      rw [← hak] at hal hcell
      have HA := Lib.hid (And.intro hal (And.intro hcell (And.intro hna (And.intro har (lt_of_heap har)))))
      clear hal hcell hna har hM hak
      go_wp2_with (go_at_call 12; fail)
      refine HA.out.1.mono ?_
      rintro e W4 ⟨rfl, own', hM, hK⟩
      have har : W4.heap[na]? = _ := (hK.block na HA.out.2.2.2.2 HA.out.2.2.1).trans HA.out.2.2.2.1
      have hcl := HA.out.2.1 W4 har
      have H4 := Lib.hid (And.intro hM (And.intro ((hK.same na HA.out.2.2.2.2).trans HA.out.2.2.1) har))
      clear hM hK har
      go_wp2
      go_roundw
      case rel => exact ⟨k + 1, own', by omega, by go_num, H4.out.1, H4.out.2.1, H4.out.2.2⟩
      case measure => simp [intOf]; omega
    · obtain rfl : k = 3 := by omega
      have HM3 := Lib.hid hM
      clear hM hna har
      go_wp2
      go_ret
      exact ⟨own, c, w.heap.size, rfl, HM3.out⟩
end Sl
end Go.Proofs.Ytlknhbcambdccaa
namespace Go.Proofs.Ytlknhbcambdccaa
open Go.RowKit
namespace Sl
open Bu

def shS1 : List Slb := [⟨0, [false, true]⟩, ⟨1, [true, false]⟩]
def shS3 : List Slb := [⟨0, [true, true]⟩, ⟨1, [true, true]⟩]
theorem shF : freeC (exC 3) (exL 3) 0 = (0, shS1, exL 3) := by kernel_rfl
theorem shA : allocC { exC 3 with sl := shS1 } 3 (exL 3) = some (0, exS 3, exL 3) := by kernel_rfl
theorem shB : allocC { ({ exC 3 with sl := shS1 } : Ca) with sl := exS 3 } 3 (exL 3) = some (88, shS3, exL 3) := by kernel_rfl
theorem shC : freeC { exC 3 with sl := shS3 } (exL 3) 48 = (4, shS3, exL 3) := by kernel_rfl

set_option maxRecDepth 100000 in
set_option maxHeartbeats 4000000 in
theorem shown_ok (w : World) : Calls Try.prog 17 #[] w fun e w' => e = .returned (.bool true) ∧ Below w.heap.size w w' := by
  have HE := Lib.hid (example_ok w)
  have hq : ∀ (w : World) (p : Option Addr), (binOp .eql 22 (.pointer p) (.pointer none)).run Try.prog w = .ok (.bool p.isNone) w := fun w p => run_eql_ptr_nil Try.prog w 22 _ p Try.underlying22
  go_enter Try.func17, Try.ntmps17
  go_wp2_with (go_at_call 10; fail)
  refine HE.out.mono ?_
  rintro e W1 ⟨own1, c, b, rfl, hM1⟩
  have H1 := Lib.hid (hM1.free (by decide) (by decide) shF)
  clear hM1 HE
  go_wp2_with (go_at_call 11; fail)
  refine H1.out.mono ?_
  rintro e W2 ⟨rfl, hM2, -⟩
  have H2 := Lib.hid (hM2.alloc shA)
  clear hM2 H1
  go_wp2_with (go_at_call 12; fail)
  refine H2.out.mono ?_
  rintro e W3 ⟨rfl, own3, hM3, -⟩
  have H3 := Lib.hid (hM3.alloc shB)
  clear hM3 H2
  go_wp2_with (go_at_call 12; fail)
  refine H3.out.mono ?_
  rintro e W4 ⟨rfl, own4, hM4, -⟩
  have H4 := Lib.hid (hM4.free (at_ := 48) (by decide) (by decide) shC)
  clear hM4 H3
  go_wp2_with (go_at_call 11; fail)
  refine H4.out.mono ?_
  rintro e W5 ⟨rfl, hM5, -⟩
  have H5 := Lib.hid hM5.below
  clear hM5 H4
  go_wp2
  go_ret
  exact ⟨rfl, H5.out⟩
end Sl
end Go.Proofs.Ytlknhbcambdccaa
