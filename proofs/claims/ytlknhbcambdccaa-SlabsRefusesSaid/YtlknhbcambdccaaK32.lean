/- ints of the law; a cache, what the reference says of it, and the other user: side by side. What a call on the reference's cache leaves; blocks that become its own. give of the reference. Trim of the reference. -/
import Derived.Test.YtlknhbcambdccaaK30
import Derived.Test.YtlknhbcambdccaaK31
import Derived.Deep.RegionHeld3
import Derived.Deep.RegionLaw
import Derived.Test.YtlknhbcambdccaaK21
namespace Go.Proofs.Ytlknhbcambdccaa
open Go.RowKit
namespace Sl
open Bu

set_option maxRecDepth 100000 in
set_option maxHeartbeats 2000000 in
theorem ints_ok (w : World) (A B : Option Addr) (c d : Nat) (M : List Nat) (h1 : I64At w A c M) (h2 : I64At w B d M) :
    Calls Try.prog 63 #[.slice A M.length c, .slice B M.length d] w fun e w' => e = .returned (.bool true) ∧ Below w.heap.size w w' := by
  obtain ⟨n, hn⟩ : ∃ n, n = M.length := ⟨_, rfl⟩
  have l1 := h1.len
  have l2 := h2.len
  have m1 := h1.cap
  have m2 := h2.cap
  unfold maxLen at m1 m2
  rw [← hn] at l1 l2 ⊢
  have HX := Lib.hid (And.intro h1 (And.intro h2 hn))
  clear h1 h2 hn
  go_enter Try.func63, Try.ntmps63
  go_wp2_with (fail)
  go_loopw [5] (fun i wr => ∃ k : Nat, k ≤ n ∧ i = .int .i64 (k : Int) ∧ ∃ m, wr = w.drewN m) (fun i _ => n - (intOf i).toNat)
  case atStart => exact ⟨0, Nat.zero_le _, rfl, 0, rfl⟩
  case round =>
    obtain ⟨k, hk, rfl, m, hm⟩ := hrel
    have e0 : (0 : Int) ≤ (k : Int) := by omega
    by_cases hlt : k < n
    · have e1 : (k : Int) < (n : Int) := by omega
      have hkk : IntKind.i64.wrap ((k : Int) + 1) = ((k + 1 : Nat) : Int) := by rw [IntWalk.i64_in _ (by omega)]; rfl
      obtain ⟨x, hx⟩ : ∃ x, M[k]? = some x := ⟨_, List.getElem?_eq_getElem (by have := HX.out.2.2; omega)⟩
      obtain ⟨g1, o1, rfl, _, d1⟩ := HX.out.1.at_ k x hx
      obtain ⟨g2, o2, rfl, _, d2⟩ := HX.out.2.1.at_ k x hx
      replace d1 : wr.cell? ⟨g1, o1 + k, none⟩ = some (.int .i64 (x : Int)) := by rw [hm]; exact d1
      replace d2 : wr.cell? ⟨g2, o2 + k, none⟩ = some (.int .i64 (x : Int)) := by rw [hm]; exact d2
      have hbb : ((x : Int) != (x : Int)) = false := by simp
      have HM := Lib.hid hm
      clear hm hx
      go_wp2_with (fail)
      go_quiet (fail)
      go_wp2
      go_roundw
      case rel => exact ⟨k + 1, by omega, by go_num, _, by rw [HM.out]; exact World.drewN_drewN ..⟩
      case measure => simp [intOf]; omega
    · obtain rfl : k = n := by omega
      have e1 : ¬ ((k : Nat) : Int) < (k : Int) := by omega
      have HM := Lib.hid hm
      clear hm
      go_wp2
      go_ret
      exact ⟨rfl, by rw [HM.out]; exact below_drew w m⟩

/-- A cache, what the reference says of it, the state of the allocator, and the blocks of the other user. -/
structure Duo (w0 : World) (Bp : Addr) (x c b r : Nat) (own own2 : Own?) (C : Ca) (N : Nat) (L : List Blk) (q : List RS) (A : Option Addr) (cG : Nat) (O : List Blk) (Ao : Option Addr) (co : Nat) (W : World) : Prop where
  prog : Mine w0 own c b C N L W
  ref : RefAt W own2 r Bp C.size C.order C.keep q
  refq : q.map (·.1) = C.sl
  fr2 : Fresh own2 W
  out2 : ∀ z, z < w0.heap.size → own2 z = none
  dis : ∀ z, own z ≠ none → own2 z = none
  wrld : W.heap[x]? = some (.cells #[.pointer (some ⟨b, 0, none⟩), .pointer (some ⟨c, 0, none⟩), .int .i64 (N : Int), .slice A L.length cG, .pointer (some ⟨r, 0, none⟩), .slice Ao O.length co] 72 (0, 0))
  xnew : w0.heap.size ≤ x ∧ own x = none ∧ own2 x = none
  st : BlkAt W A cG L ∧ (L ≠ [] → ∀ g, A.map (·.block) = some g → g < W.heap.size ∧ own g = none ∧ own2 g = none ∧ g ≠ x)
  oth : BlkAt W Ao co O ∧ (Ao = none → co = 0) ∧ ∀ g, Ao.map (·.block) = some g → g < W.heap.size ∧ own g = none ∧ own2 g = none ∧ g ≠ x
  sub : ∀ z ∈ O, z ∈ L ∧ ∀ y ∈ C.sl, z ≠ (y.pg, C.order)
  nd : O.Nodup

theorem Duo.below {w0 : World} {Bp : Addr} {x c b r : Nat} {own own2 : Own?} {C : Ca} {N : Nat} {L : List Blk} {q : List RS} {A : Option Addr} {cG : Nat} {O : List Blk} {Ao : Option Addr} {co : Nat} {W W' : World} (h : Duo w0 Bp x c b r own own2 C N L q A cG O Ao co W) (hb : Below W.heap.size W W') :
    Duo w0 Bp x c b r own own2 C N L q A cG O Ao co W' := by
  refine ⟨h.prog.step hb, h.ref.below h.fr2 hb, h.refq, fun k hk => Nat.lt_of_lt_of_le (h.fr2 k hk) hb.size, h.out2, h.dis, (hb.block x (lt_of_heap h.wrld)).trans h.wrld, h.xnew, ⟨h.st.1.below hb, fun hL g hg => ?_⟩, ⟨h.oth.1.below hb, h.oth.2.1, fun g hg => ?_⟩, h.sub, h.nd⟩
  · obtain ⟨k2, k3⟩ := h.st.2 hL g hg
    exact ⟨Nat.lt_of_lt_of_le k2 hb.size, k3⟩
  · obtain ⟨k2, k3⟩ := h.oth.2.2 g hg
    exact ⟨Nat.lt_of_lt_of_le k2 hb.size, k3⟩
theorem Duo.refok {w0 : World} {Bp : Addr} {x c b r : Nat} {own own2 : Own?} {C : Ca} {N : Nat} {L : List Blk} {q : List RS} {A : Option Addr} {cG : Nat} {O : List Blk} {Ao : Option Addr} {co : Nat} {W : World} (h : Duo w0 Bp x c b r own own2 C N L q A cG O Ao co W) : CaOk (refC C.size C.order C.keep q) N L := by
  have := h.prog.held.ok
  unfold refC
  rw [h.refq]; exact this
end Sl
end Go.Proofs.Ytlknhbcambdccaa
namespace Go.Proofs.Ytlknhbcambdccaa
open Go.RowKit
namespace Sl
open Bu

/-- As Keeps, but for the block in which the state of the allocator lies. -/
structure KeepB (own own' : Own?) (B : Nat) (w w' : World) : Prop where
  os : w'.os = w.os
  tape : w'.tape = w.tape
  output : w'.output = w.output
  size : w.heap.size ≤ w'.heap.size
  block : ∀ k, k < w.heap.size → own k = none → k ≠ B → w'.heap[k]? = w.heap[k]?
  same : ∀ k, k < w.heap.size → own' k = own k
  new : ∀ k, own' k ≠ none → own k ≠ none ∨ (w.heap.size ≤ k ∧ k < w'.heap.size)

theorem KeepB.refl (own : Own?) (B : Nat) (w : World) : KeepB own own B w w := ⟨rfl, rfl, rfl, Nat.le_refl _, fun _ _ _ _ => rfl, fun _ _ => rfl, fun _ h => .inl h⟩
theorem KeepB.trans {o1 o2 o3 : Own?} {B : Nat} {a b c : World} (h : KeepB o1 o2 B a b) (k : KeepB o2 o3 B b c) : KeepB o1 o3 B a c :=
  ⟨k.os.trans h.os, k.tape.trans h.tape, k.output.trans h.output, Nat.le_trans h.size k.size,
    fun i hi hn hb => (k.block i (Nat.lt_of_lt_of_le hi h.size) ((h.same i hi).trans hn) hb).trans (h.block i hi hn hb),
    fun i hi => (k.same i (Nat.lt_of_lt_of_le hi h.size)).trans (h.same i hi),
    fun i hi => by
      have h1 := h.size
      have h2 := k.size
      rcases k.new i hi with h3 | h3
      · rcases h.new i h3 with h4 | h4
        · exact .inl h4
        · exact .inr ⟨h4.1, by omega⟩
      · exact .inr ⟨by omega, h3.2⟩⟩
theorem KeepB.of_below (own : Own?) (B : Nat) {w w' : World} (h : Below w.heap.size w w') : KeepB own own B w w' :=
  ⟨h.os, h.tape, h.output, h.size, fun k hk _ _ => h.block k hk, fun _ _ => rfl, fun _ h => .inl h⟩
theorem Fresh.keepB {own own' : Own?} {B : Nat} {w w' : World} (h : Fresh own w) (k : KeepB own own' B w w') : Fresh own' w' := fun i hi => by
  rcases k.new i hi with h1 | h1
  · exact Nat.lt_of_lt_of_le (h i h1) k.size
  · exact h1.2

/-- A block more. -/
def ownX (own : Own?) (g : Option Nat) (n : Nat) : Own? := fun z => if some z = g then some n else own z
theorem ownX_at (own : Own?) (g n : Nat) : ownX own (some g) n g = some n := if_pos rfl
theorem ownX_far {own : Own?} {g : Option Nat} {n z : Nat} (h : some z ≠ g) : ownX own g n z = own z := if_neg h

theorem setCell_cong {a b : World} {g : Nat} (h : a.heap[g]? = b.heap[g]?) (o : Nat) (v : Value) : (a.setCell ⟨g, o, none⟩ v).heap[g]? = (b.setCell ⟨g, o, none⟩ v).heap[g]? := by
  simp [World.setCell, Array.getElem?_modify, h]
theorem set_self {cs : Array Value} {i : Nat} {v : Value} (h : cs[i]? = some v) : cs.setIfInBounds i v = cs := by
  apply Array.ext_getElem?
  intro j
  rw [Array.getElem?_setIfInBounds]
  by_cases e : i = j
  · subst e
    rw [if_pos rfl, if_pos (Array.getElem?_eq_some_iff.1 h).1, h]
  · rw [if_neg e]

/-- The reference's cache, and the state of the allocator that it uses (the block B has it, from cell ob on). -/
structure RefS (W : World) (own : Own?) (r B ob s o kp N : Nat) (q : List RS) (A : Option Addr) (cG : Nat) (L : List Blk) : Prop where
  ref : RefAt W own r ⟨B, ob, none⟩ s o kp q
  fr : Fresh own W
  ownB : own B = none
  cell : ∃ cs T, W.heap[B]? = some (.cells cs T (0, 0)) ∧ cs[ob]? = some (.int .i64 (N : Int)) ∧ cs[ob + 1]? = some (.slice A L.length cG)
  blk : BlkAt W A cG L
  far : L ≠ [] → ∀ g, A.map (·.block) = some g → g < W.heap.size ∧ own g = none ∧ g ≠ B

/-- What a call on the reference leaves. -/
structure RefN (own own' : Own?) (B ob : Nat) (A : Option Addr) (L : List Blk) (w W : World) (A' : Option Addr) (c' : Nat) (L' : List Blk) : Prop where
  keep : KeepB own own' B w W
  set : ∃ cs T, w.heap[B]? = some (.cells cs T (0, 0)) ∧ W.heap[B]? = some (.cells (cs.setIfInBounds (ob + 1) (.slice A' L'.length c')) T (0, 0))
  new : (A' = A ∧ L' = L) ∨ ∀ g, A'.map (·.block) = some g → w.heap.size ≤ g

theorem RefN.trans {o1 o2 o3 : Own?} {B ob : Nat} {A A1 A2 : Option Addr} {L L1 L2 : List Blk} {c1 c2 : Nat} {a b c : World} (h : RefN o1 o2 B ob A L a b A1 c1 L1) (k : RefN o2 o3 B ob A1 L1 b c A2 c2 L2) : RefN o1 o3 B ob A L a c A2 c2 L2 := by
  obtain ⟨cs, T, h1, h2⟩ := h.set
  obtain ⟨cs2, T2, k1, k2⟩ := k.set
  rw [h2] at k1
  injection k1 with k1; injection k1 with k1 k3
  subst k1; subst k3
  refine ⟨h.keep.trans k.keep, ⟨cs, T, h1, by rw [k2, Array.setIfInBounds_setIfInBounds]⟩, ?_⟩
  rcases k.new with ⟨e1, e2⟩ | e
  · rw [e1, e2]; exact h.new
  · exact .inr fun g hg => Nat.le_trans h.keep.size (e g hg)
theorem RefS.same {W : World} {own : Own?} {r B ob s o kp N : Nat} {q : List RS} {A : Option Addr} {cG : Nat} {L : List Blk} (h : RefS W own r B ob s o kp N q A cG L) {W' : World} (hb : Below W.heap.size W W') : RefS W' own r B ob s o kp N q A cG L ∧ RefN own own B ob A L W W' A cG L := by
  obtain ⟨cs, T, h1, h2, h3⟩ := h.cell
  have hB := hb.block B (lt_of_heap h1)
  refine ⟨⟨h.ref.below h.fr hb, fun k hk => Nat.lt_of_lt_of_le (h.fr k hk) hb.size, h.ownB, ⟨cs, T, hB.trans h1, h2, h3⟩, h.blk.below hb, fun hL g hg => ?_⟩, .of_below own B hb, ⟨cs, T, h1, by rw [hB, h1, set_self h3]⟩, .inl ⟨rfl, rfl⟩⟩
  obtain ⟨k1, k2⟩ := h.far hL g hg
  exact ⟨Nat.lt_of_lt_of_le k1 hb.size, k2⟩

/-- Rows of slabs are appended: with letters for the lengths. -/
theorem step_append_rowL {w : World} {ops : Array Oper} {o : Oper} {a : Act} {K : Act → World → Prop} {Q : Exit → Act → World → Prop} {E : Prop} (hgd : o.guard = none) (s x : Operand)
    (ho : o.op = .call { callee := .builtin .append, args := #[s, x], argTypes := #[67, 67] })
    (base : Nat) (A0 : Option Addr) (n c0 : Nat) (X : List RS) (hn : X.length = n) (hs : a.eval s = .slice A0 n c0) (hown : w.ownsRow base 90 2 (.slice A0 X.length c0) X.length (rcells X))
    (A : Option Addr) (m c : Nat) (M : List RS) (hm : M.length = m) (hx : a.eval x = .slice A m c) (hM : RowAt w A c M) (Z : List RS) (p : Nat) (hZ : X ++ M = Z) (hp : Z.length = p) (hlen : n + m ≤ 100000) (hbase : base ≤ w.heap.size)
    (h : ∀ A' c' w', OwnR w' base A' c' Z → w.grownBy w' (Value.slice A0 X.length c0).ownBlock → K (a.put o.dst (.slice A' p c')) w') :
    if Region.wanted o (yielded ops a.tmps) = true then Oper.wp Try.prog o a w K Q else E := by
  subst hn; subst hm; subst hZ; subst hp
  exact step_append_row hgd s x ho base _ X hs hown A c M hx hM hlen hbase h
end Sl
end Go.Proofs.Ytlknhbcambdccaa
namespace Go.Proofs.Ytlknhbcambdccaa
open Go.RowKit
namespace Sl
open Bu
def opT41 : Op := .load 67 (.tmp 41)
attribute [local go_sem] opT41
def opT49 : Op := .load 67 (.tmp 49)
attribute [local go_sem] opT49

theorem ref_own {w : World} {own : Own?} {r : Nat} {Bp : Addr} {s o kp : Nat} {q : List RS} (h : RefAt w own r Bp s o kp q) {g oo cap : Nat} (hc : w.heap[r]? = some (.cells #[.pointer (some Bp), .int .i64 (s : Int), .int .i64 (o : Int), .int .i64 (kp : Int), .slice (some ⟨g, oo, none⟩) q.length cap] 133 (0, 0))) : own g = some 2 ∧ g < w.heap.size ∧ RowAt w (some ⟨g, oo, none⟩) cap q := by
  obtain ⟨A, c, h1, h2, h3⟩ := h.cell
  rw [h1] at hc
  injection hc with hc; injection hc with hc hc2
  have hA := congrArg (fun z : Array Value => z[4]?) hc
  simp at hA
  obtain ⟨rfl, rfl⟩ := hA
  exact ⟨(h3 g rfl).1, (h3 g rfl).2, h2⟩

/-- What give's first line reads. -/
def GvS (w : World) (r B ob N ln cG g oo n cap k pg o : Nat) (A : Option Addr) (w' : World) : Prop :=
  Below w.heap.size w w' ∧ w'.cell? ⟨r, 0, none⟩ = some (.pointer (some ⟨B, ob, none⟩)) ∧ w'.cell? ⟨B, ob, none⟩ = some (.int .i64 (N : Int)) ∧ w'.cell? ⟨B, ob + 1, none⟩ = some (.slice A ln cG) ∧ w'.cell? ⟨r, 4, none⟩ = some (.slice (some ⟨g, oo, none⟩) n cap) ∧ w'.cell? ⟨g, oo + k * 2, none⟩ = some (.int .i64 (pg : Int)) ∧ w'.cell? ⟨r, 2, none⟩ = some (.int .i64 (o : Int))
theorem GvS.of {w : World} {r B ob N ln cG g oo n cap k pg o : Nat} {A : Option Addr} {V : World} (h : GvS w r B ob N ln cG g oo n cap k pg o A w) (hr : r < w.heap.size) (hB : B < w.heap.size) (hg : g < w.heap.size) (hb : Below w.heap.size w V) : GvS w r B ob N ln cG g oo n cap k pg o A V := by
  obtain ⟨_, a0, a1, a2, a3, a4, a5⟩ := h
  exact ⟨hb, (hb.cell (p := ⟨r, 0, none⟩) hr).trans a0, (hb.cell (p := ⟨B, ob, none⟩) hB).trans a1, (hb.cell (p := ⟨B, ob + 1, none⟩) hB).trans a2, (hb.cell (p := ⟨r, 4, none⟩) hr).trans a3, (hb.cell (p := ⟨g, oo + k * 2, none⟩) hg).trans a4, (hb.cell (p := ⟨r, 2, none⟩) hr).trans a5⟩


/-- A slab is given back: what is left. -/
theorem give_done {w W1 W2 w8 : World} {own : Own?} {r B ob s o kp N k : Nat} {q : List RS} {A A5 A8 : Option Addr} {cG c5 c8 : Nat} {L D : List Blk} (h : RefS w own r B ob s o kp N q A cG L) (hb1 : Below w.heap.size w W1) (ho5 : Bu.Own W1 w.heap.size A5 c5 D)
    (hW2 : W2 = ((World.drew W1).setCell ⟨B, ob, none⟩ (.int .i64 (N : Int))).setCell ⟨B, ob + 1, none⟩ (.slice A5 D.length c5)) (hb8 : Below W2.heap.size W2 w8) (hr8 : OwnR w8 W2.heap.size A8 c8 (q.eraseIdx k)) {Z : List RS} {p : Nat} (hZ : Z = q.eraseIdx k) (hp : Z.length = p) :
    RefS (w8.setCell ⟨r, 4, none⟩ (.slice A8 p c8)) (ownX own (A8.map (·.block)) 2) r B ob s o kp N (q.eraseIdx k) A5 c5 D ∧ RefN own (ownX own (A8.map (·.block)) 2) B ob A L w (w8.setCell ⟨r, 4, none⟩ (.slice A8 p c8)) A5 c5 D := by
  subst hZ; subst hp
  obtain ⟨cs, T, hB0, hB1, hB2⟩ := h.cell
  obtain ⟨A0, cap0, hc, hrow, hg0⟩ := h.ref.cell
  have hrl := lt_of_heap hc
  have hBl := lt_of_heap hB0
  have hBr : B ≠ r := fun e => by have := h.ownB; rw [e, h.ref.ownR] at this; cases this
  have hs1 := hb1.size
  have hs2 : W2.heap.size = W1.heap.size := by rw [hW2, setCell_size, setCell_size]; rfl
  have hs8 := hb8.size
  have hf2 : ∀ z, z ≠ B → W2.heap[z]? = W1.heap[z]? := fun z hz => by rw [hW2]; exact (setCell_far _ _ _ _ hz).trans (setCell_far _ _ _ _ hz)
  have hB22 : W2.heap[B]? = some (.cells (cs.setIfInBounds (ob + 1) (.slice A5 D.length c5)) T (0, 0)) := by
    have h1 : (World.drew W1).heap[B]? = some (.cells cs T (0, 0)) := (hb1.block B hBl).trans hB0
    have h2 := setCell_at _ _ ob _ _ (.int .i64 (N : Int)) h1
    rw [set_self hB1] at h2
    rw [hW2]; exact setCell_at _ _ _ _ _ _ h2
  obtain ⟨hra, hrb⟩ := hr8.at
  obtain ⟨hoa, hob⟩ := ho5.at
  have hgn : ∀ z, z < w.heap.size → some z ≠ A8.map (·.block) := fun z hz e => by have := (hrb z e.symm).1; omega
  have hgr : ∀ z, A8.map (·.block) = some z → z ≠ r := fun z e e2 => hgn z (by rw [e2]; exact hrl) e.symm
  have hgB : ∀ z, A8.map (·.block) = some z → z ≠ B := fun z e e2 => hgn z (by rw [e2]; exact hBl) e.symm
  have hw : ∀ z, z < w.heap.size → z ≠ r → z ≠ B → (w8.setCell ⟨r, 4, none⟩ (.slice A8 (q.eraseIdx k).length c8)).heap[z]? = w.heap[z]? := fun z hz hr hB =>
    (setCell_far _ _ _ _ hr).trans ((hb8.block z (by omega)).trans ((hf2 z hB).trans (hb1.block z hz)))
  have hr8c : w8.heap[r]? = some (.cells #[.pointer (some ⟨B, ob, none⟩), .int .i64 (s : Int), .int .i64 (o : Int), .int .i64 (kp : Int), .slice A0 q.length cap0] 133 (0, 0)) := (hb8.block r (by omega)).trans ((hf2 r hBr.symm).trans ((hb1.block r hrl).trans hc))
  have hBW : (w8.setCell ⟨r, 4, none⟩ (.slice A8 (q.eraseIdx k).length c8)).heap[B]? = some (.cells (cs.setIfInBounds (ob + 1) (.slice A5 D.length c5)) T (0, 0)) := (setCell_far _ _ _ _ hBr).trans ((hb8.block B (by omega)).trans hB22)
  have hsW : (w8.setCell ⟨r, 4, none⟩ (.slice A8 (q.eraseIdx k).length c8)).heap.size = w8.heap.size := setCell_size _ _ _
  have hcl : ob + 1 < cs.size := (Array.getElem?_eq_some_iff.1 hB2).1
  refine ⟨⟨⟨?_, ⟨A8, c8, ?_, ?_, fun g hg => ⟨?_, ?_⟩⟩, fun j x hx => ?_⟩, fun z hz => ?_, ?_, ⟨_, T, hBW, ?_, ?_⟩, ?_, fun _ g hg => ?_⟩, ⟨?_, ?_, ?_, ?_, fun z hz hn hB => ?_, fun z hz => ?_, fun z hz => ?_⟩, ⟨cs, T, hB0, hBW⟩, .inr fun g hg => (hob g hg).1⟩
  · rw [ownX_far (hgn r hrl)]; exact h.ref.ownR
  · have := setCell_at _ _ 4 _ _ (.slice A8 (q.eraseIdx k).length c8) hr8c
    rw [this]; rfl
  · refine hra.keep (by rw [hsW]; exact Nat.le_refl _) fun g hg _ => setCell_far _ _ _ _ (hgr g hg)
  · rw [hg]; exact ownX_at _ _ _
  · rw [hsW]; exact (hrb g hg).2
  · obtain ⟨i, hi⟩ := List.mem_iff_getElem?.1 (List.mem_of_mem_eraseIdx (List.mem_of_getElem? hx))
    obtain ⟨k1, k2⟩ := h.ref.used i x hi
    have hul := h.fr x.2.1 (by rw [k1]; simp)
    refine ⟨by rw [ownX_far (hgn _ hul)]; exact k1, row_same k2 fun g hg => ?_⟩
    have hg : x.2.1 = g := by injection hg
    rw [← hg]
    exact hw _ hul (fun e => by rw [e, h.ref.ownR] at k1; injection k1 with k1; omega) (fun e => by rw [e, h.ownB] at k1; cases k1)
  · rw [hsW]
    by_cases e : some z = A8.map (·.block)
    · exact (hrb z e.symm).2
    · rw [ownX_far e] at hz
      have := h.fr z hz; omega
  · rw [ownX_far (hgn B hBl)]; exact h.ownB
  · rw [Array.getElem?_setIfInBounds_ne (by omega)]; exact hB1
  · rw [Array.getElem?_setIfInBounds_self_of_lt hcl]
  · refine hoa.keep (by rw [hsW]; omega) fun g hg _ => ?_
    have h1 := hob g hg
    have h2 : g ≠ B := by omega
    have h3 : g ≠ r := by omega
    exact (setCell_far _ _ _ _ h3).trans ((hb8.block g (by omega)).trans (hf2 g h2))
  · have h1 := hob g hg
    refine ⟨by rw [hsW]; omega, ?_, by omega⟩
    have h4 : some g ≠ A8.map (·.block) := fun e => by have := (hrb g e.symm).1; omega
    rw [ownX_far h4]
    exact Classical.byContradiction fun e => by have := h.fr g e; omega
  · exact (hb8.os).trans ((by rw [hW2]; rfl : W2.os = W1.os).trans hb1.os)
  · exact (hb8.tape).trans ((by rw [hW2]; rfl : W2.tape = W1.tape).trans hb1.tape)
  · exact (hb8.output).trans ((by rw [hW2]; rfl : W2.output = W1.output).trans hb1.output)
  · rw [hsW]; omega
  · exact hw z hz (fun e => by rw [e, h.ref.ownR] at hn; cases hn) hB
  · exact ownX_far (hgn z hz)
  · by_cases e : some z = A8.map (·.block)
    · exact .inr ⟨by have := (hrb z e.symm).1; omega, by rw [hsW]; exact (hrb z e.symm).2⟩
    · rw [ownX_far e] at hz; exact .inl hz

/-- What give leaves. -/
def GiveQ (w : World) (own : Own?) (r B ob s o kp N : Nat) (q : List RS) (A : Option Addr) (L : List Blk) (k : Nat) (x : RS) (W : World) : Prop :=
  ∃ own' A' c', RefS W own' r B ob s o kp N (q.eraseIdx k) A' c' (delB L (x.1.pg, o)) ∧ RefN own own' B ob A L w W A' c' (delB L (x.1.pg, o))

set_option maxRecDepth 100000 in
set_option maxHeartbeats 8000000 in
theorem giveR_ok (w : World) (own : Own?) (r B ob : Nat) (s o kp N : Nat) (L : List Blk) (q : List RS) (A : Option Addr) (cG : Nat) (hq0 : RefS w own r B ob s o kp N q A cG L) (H : St N L) (hnq : q.length ≤ 2000) (k : Nat) (x : RS) (hx : q[k]? = some x) (hmem : (x.1.pg, o) ∈ L) :
    Calls Try.prog 84 #[.pointer (some ⟨r, 0, none⟩), .int .i64 (k : Int)] w fun e w' => e = .returned (.tuple #[]) ∧ GiveQ w own r B ob s o kp N q A L k x w' := by
  have h := hq0.ref
  have hf := hq0.fr
  have hA := hq0.blk
  have hBo := hq0.ownB
  obtain ⟨csB, TB, hBc, hBc0, hBc1⟩ := hq0.cell
  have hBl := lt_of_heap hBc
  have hB0 : w.cell? ⟨B, ob, none⟩ = some (.int .i64 (N : Int)) := by rw [cell_of_row _ _ _ _ _ _ hBc]; exact hBc0
  have hB1 : w.cell? ⟨B, ob + 1, none⟩ = some (.slice A L.length cG) := by rw [cell_of_row _ _ _ _ _ _ hBc]; exact hBc1
  have hBf : w.frozen? ⟨B, ob, none⟩ = false ∧ w.frozen? ⟨B, ob + 1, none⟩ = false := ⟨by simp [World.frozen?, hBc], by simp [World.frozen?, hBc]⟩
  obtain ⟨g, oo, cap, hc, hl1, hl2, hg, d0, d1⟩ := ref_row h hx
  obtain ⟨c0, _, c2, _, c4, cf4⟩ := five_cells hc
  obtain ⟨hog, _, hrow⟩ := ref_own h hc
  have hBr : B ≠ r := fun e => by rw [e, h.ownR] at hBo; cases hBo
  have hBg : B ≠ g := fun e => by rw [e, hog] at hBo; cases hBo
  have hrg : r ≠ g := fun e => by have := h.ownR; rw [e, hog] at this; cases this
  have hrl := lt_of_heap hc
  have hk := (List.getElem?_eq_some_iff.1 hx).1
  have hS := H
  have hL : L.length ≤ 2048 := by have := st_len hS; omega
  have hD := fun V (hV : Below w.heap.size w V) => dropR_ok V N A cG L (x.1.pg, o) hS.n10 (hA.below hV) hL (hS.inb _ hmem)
  unfold maxLen at hl2
  obtain ⟨n, hn⟩ : ∃ n, n = q.length := ⟨_, rfl⟩
  obtain ⟨ln, hln⟩ : ∃ ln, ln = L.length := ⟨_, rfl⟩
  obtain ⟨pg, hpg⟩ : ∃ pg, pg = x.1.pg := ⟨_, rfl⟩
  obtain ⟨D, hDe⟩ : ∃ D, D = delB L (x.1.pg, o) := ⟨_, rfl⟩
  rw [← hln] at hB1
  have hDD : ∀ V, Below w.heap.size w V → Calls Try.prog 85 #[sv N A ln cG, .int .i64 (pg : Int), .int .i64 (o : Int)] V fun e w' => (∃ A' c', e = .returned (.tuple #[sv N A' D.length c', .int .i64 0]) ∧ Bu.Own w' V.heap.size A' c' D) ∧ Below w.heap.size w w' ∧ V.heap.size ≤ w'.heap.size ∧ (∀ z, z < V.heap.size → w'.heap[z]? = V.heap[z]?) := by
    intro V hV
    rw [hln, hpg]
    refine (hD V hV).mono ?_
    rintro e w' ⟨hr, hb⟩
    refine ⟨?_, below_step hV hb (Nat.le_refl _), hb.size, hb.block⟩
    rcases hr with ⟨_, A', c', he, ho⟩ | ⟨hno, _⟩
    · rw [hDe]; exact ⟨A', c', he, ho⟩
    · exact absurd hmem hno
  rw [← hn] at c4 hk hl1 hnq
  rw [← hpg] at d0
  have e0 : (0 : Int) ≤ (k : Int) := by omega
  have e1 : (k : Int) < (n : Int) := by omega
  have hS0 : GvS w r B ob N ln cG g oo n cap k pg o A w := ⟨Below.refl _ _, c0, hB0, hB1, c4, d0, c2⟩
  have hSV := fun V (hV : Below w.heap.size w V) => GvS.of hS0 hrl hBl hg hV
  have HD := Lib.hid hDD
  have HX := Lib.hid (And.intro h (And.intro hf (And.intro H (And.intro hn (And.intro hln (And.intro hpg (And.intro hDe (And.intro hx hc))))))))
  have HR := Lib.hid (And.intro hrow (And.intro hog cf4))
  clear hrow hog cf4
  have HQ := Lib.hid hq0
  clear h hf H hA hx hc hn hln hpg hDe hD hDD hS hL hmem hBo hq0 hBc hBc0 hBc1
  go_enter Try.func84, Try.ntmps84
  go_upto_region 0 with (fail)
  go_cut [4, 5] from 6 to 29 (fun v _ wx => ∃ (z : Nat) (A5 : Option Addr) (c5 : Nat), v = .pointer (some ⟨z, 0, none⟩) ∧ wx.heap[z]? = some (.cells #[.int .i64 (N : Int), .slice A5 D.length c5] 46 (0, 0)) ∧ w.heap.size ≤ z ∧ Bu.Own wx w.heap.size A5 c5 D ∧ Below w.heap.size w wx)
  case first =>
   go_region_held3 (fun w' => Below w.heap.size w w' ∧ w'.cell? ⟨r, 0, none⟩ = some (.pointer (some ⟨B, ob, none⟩)) ∧ w'.cell? ⟨B, ob, none⟩ = some (.int .i64 (N : Int)) ∧ w'.cell? ⟨B, ob + 1, none⟩ = some (.slice A ln cG) ∧ w'.cell? ⟨r, 4, none⟩ = some (.slice (some ⟨g, oo, none⟩) n cap) ∧ w'.cell? ⟨g, oo + k * 2, none⟩ = some (.int .i64 (pg : Int)) ∧ w'.cell? ⟨r, 2, none⟩ = some (.int .i64 (o : Int)))
    (first | exact hSV _ (below_drew w 1) | exact hSV _ ((below_box w _).drew) | exact hSV _ hb5 | exact hSV _ (hb5.alloc hs5 _) | exact hSV _ ((hb5.setCell (p := ⟨w.heap.size, 0, none⟩) (Nat.le_refl _) _).setCell (p := ⟨w.heap.size, 1, none⟩) (Nat.le_refl _) _) | (trace_state; fail))
    (first | (go_at_call 85; refine (HD.out _ (And.left (by assumption))).mono ?_; rintro _ W5 ⟨⟨A5, c5, rfl, ho5⟩, hb5, hv5, hk5⟩; have hs5 : w.heap.size ≤ W5.heap.size := hb5.size; (try (have hz5 : W5.heap[w.heap.size]? = some (.cells #[.int .i64 0, .slice none 0 0] 46 (0, 0)) := (hk5 w.heap.size (by show w.heap.size < (w.alloc _).heap.size; simp)).trans (blk_new w _ _ _); obtain ⟨z0, z1, zf0, zf1⟩ := Bu.two_cells hz5; have HZ5 := Lib.hid hz5; clear hz5)); have H5 := Lib.hid (And.intro ho5 (And.intro hv5 hk5)); clear ho5 hv5 hk5))
   all_goals
    go_wp2_with (fail)
    go_meet
   · exact ⟨W5.heap.size, A5, c5, rfl, by rw [heapAlloc, if_pos rfl], hs5, H5.out.1.alloc _, hb5.alloc hs5 _⟩
   · have hVs : ((w.alloc (.cells #[.int .i64 0, .slice none 0 0] 46)).drew).heap.size = w.heap.size + 1 := by show (w.alloc _).heap.size = _; simp
     have ho := H5.out.1
     rw [hVs] at ho
     refine ⟨w.heap.size, A5, c5, rfl, two_set HZ5.out _ _, Nat.le_refl _, row_low (row_keep ho fun z h1 h2 => (setCell_far _ _ _ _ (by show z ≠ w.heap.size; omega)).trans (setCell_far _ _ _ _ (by show z ≠ w.heap.size; omega))) (Nat.le_succ _), (hb5.setCell (p := ⟨w.heap.size, 0, none⟩) (Nat.le_refl _) _).setCell (p := ⟨w.heap.size, 1, none⟩) (Nat.le_refl _) _⟩
  case rest =>
    obtain ⟨z, A5, c5, rfl, hz, hzw, ho5, hbw⟩ := hcut
    obtain ⟨W1, rfl⟩ : ∃ W1 : World, W1 = wc := ⟨_, rfl⟩
    obtain ⟨_, p0, p1, p2, p3, p4, p5⟩ := hSV _ hbw
    obtain ⟨z0, z1, _, _⟩ := Bu.two_cells hz
    have bf0 := (hbw.frozen (p := ⟨B, ob, none⟩) hBl).trans hBf.1
    have bf1 := (hbw.frozen (p := ⟨B, ob + 1, none⟩) hBl).trans hBf.2
    have H5 := Lib.hid (And.intro hz (And.intro hzw (And.intro ho5 hbw)))
    have HSV := Lib.hid hSV
    clear hz hzw ho5 hbw hSV hS0 c0 hB0 hB1 c4 d0 c2 hBf
    go_upto_region 1 with (fail)
    go_cut [] from 30 to 35 (fun wx => wx = ((World.drew W1).setCell ⟨B, ob, none⟩ (.int .i64 (N : Int))).setCell ⟨B, ob + 1, none⟩ (.slice A5 D.length c5))
    case first =>
      go_region
      all_goals
        go_wp2_with (fail)
        go_meet
        exact rfl
    case rest =>
      obtain ⟨W2, hW2e⟩ : ∃ W2 : World, W2 = wc := ⟨_, rfl⟩
      rw [← hW2e] at hcut ⊢
      clear hW2e
      obtain ⟨hz, hzw, ho5, hbw⟩ := H5.out
      obtain ⟨h, hf, H, hn, hln, hpg, hDe, hx, hc⟩ := HX.out
      have hs1 := hbw.size
      have hs2 : W2.heap.size = W1.heap.size := by rw [hcut, setCell_size, setCell_size]; rfl
      have hf2 : ∀ z, z ≠ B → W2.heap[z]? = W1.heap[z]? := fun z hz => by rw [hcut]; exact (setCell_far _ _ _ _ hz).trans (setCell_far _ _ _ _ hz)
      have hcr := (hf2 r hBr.symm).trans ((hbw.block r hrl).trans hc)
      rw [← hn] at hcr
      obtain ⟨_, _, _, _, q4, qf4⟩ := five_cells hcr
      have hrow2 : RowAt W2 (some ⟨g, oo, none⟩) cap q := HR.out.1.keep (by omega) fun g' hg' hl => (hf2 g' (by injection hg' with hg'; rw [← hg']; exact hBg.symm)).trans (hbw.block g' hl)
      obtain ⟨k1, hk1e⟩ : ∃ k1 : Nat, k1 = k + 1 := ⟨_, rfl⟩
      obtain ⟨P, hP⟩ : ∃ P, P = q.take k := ⟨_, rfl⟩
      obtain ⟨R, hR⟩ : ∃ R, R = q.drop k1 := ⟨_, rfl⟩
      obtain ⟨Z, hZ⟩ : ∃ Z, Z = q.eraseIdx k := ⟨_, rfl⟩
      obtain ⟨p, hp⟩ : ∃ p, Z.length = p := ⟨_, rfl⟩
      have hPl : P.length = k := by rw [hP, List.length_take]; omega
      have hRl : R.length = n - k1 := by rw [hR, List.length_drop, hn]
      have hPR : P ++ R = Z := by rw [hP, hR, hZ, hk1e, List.eraseIdx_eq_take_drop_succ]
      have hk1 : IntKind.i64.wrap ((k : Int) + 1) = (k1 : Int) := by rw [IntWalk.i64_in _ (by omega)]; omega
      have u0 : (k : Int) ≤ (cap : Int) := by omega
      have u1 : (0 : Int) ≤ (k1 : Int) := by omega
      have u2 : (k1 : Int) ≤ (n : Int) := by omega
      have u3 : (n : Int) ≤ (cap : Int) := by omega
      have hsrcP : RowAt W2 (some ⟨g, oo, none⟩) cap P := by rw [hP]; exact hrow2.take k
      have hsrcR : RowAt W2 (if cap = k1 then some ⟨g, oo, none⟩ else some ⟨g, oo + k1 * 2, none⟩) (cap - k1) R := by
        by_cases e : cap = k1
        · have h0 : R = [] := List.length_eq_zero_iff.1 (by omega)
          rw [h0, if_pos e]
          exact ⟨Nat.zero_le _, by unfold maxLen; omega, (fun h => by cases h), (fun ad e => by injection e with e; exact ⟨g, oo, e.symm⟩), fun j x hx => by simp at hx⟩
        · rw [if_neg e, hR]
          exact hrow2.drop (by rw [← hn]; omega)
      have hrl2 : r < W2.heap.size := by omega
      have a4 : (W2.alloc (.cells #[] 90)).cell? ⟨r, 4, none⟩ = some (.slice (some ⟨g, oo, none⟩) n cap) := (World.cell?_alloc_lt W2 _ _ hrl2).trans q4
      have HK := Lib.hid (And.intro hPl (And.intro hRl (And.intro hPR (And.intro hp (And.intro hsrcP (And.intro hsrcR (And.intro hZ hcut)))))))
      have hkn : k1 ≤ n := by omega
      have hk1k : k1 = k + 1 := hk1e
      have HKK := Lib.hid hk1k
      clear hz hzw ho5 hbw h hf H hn hln hpg hDe hx hc hs1 hs2 hf2 hcr hrow2 hk1e hk1k hP hR hZ hp hPl hRl hPR hsrcP hsrcR hcut p0 p1 p2 p3 p4 p5 z0 z1 bf0 bf1
      go_upto_region 2 with (fail)
      rw [show Op.load 67 (.tmp 41) = opT41 from rfl, show Op.load 67 (.tmp 49) = opT49 from rfl]
      go_region_held3 (fun _ => True) (trivial) (first
        | (refine step_append_rowL (by rfl) (.tmp 37) (.tmp 44) (by rfl) W2.heap.size (some ⟨W2.heap.size, 0, none⟩) 0 0 [] (by rfl) (by rfl) (row_emptyR W2 _ (Nat.le_refl _)) (some ⟨g, oo, none⟩) k cap P HK.out.1 (by rfl) (HK.out.2.2.2.2.1.keep (by show W2.heap.size ≤ (W2.alloc _).heap.size; simp) (fun z _ hz => alloc_old _ _ _ hz)) P k (List.nil_append _) HK.out.1 (by omega) (by show W2.heap.size ≤ (W2.alloc _).heap.size; simp) ?_
           intro A7 c7 w7 hrow7 hgr7
           have hb7 : Below W2.heap.size W2 w7 := ((below_box W2 _).drew).grown hgr7 (by show W2.heap.size ≤ (W2.alloc _).heap.size; simp) (fun k hk => ((row_emptyR W2 W2.heap.size (Nat.le_refl _)).lt k hk).1)
           have b4 : w7.cell? ⟨r, 4, none⟩ = some (.slice (some ⟨g, oo, none⟩) n cap) := (hb7.cell (p := ⟨r, 4, none⟩) hrl2).trans q4
           have H7 := Lib.hid (And.intro hrow7 hb7)
           clear hrow7 hgr7 hb7)
        | (refine step_append_rowL (by rfl) (.tmp 45) (.tmp 53) (by rfl) W2.heap.size A7 k c7 P HK.out.1 (by rfl) (row_keep H7.out.1 (fun _ _ _ => rfl)) (if cap = k1 then some ⟨g, oo, none⟩ else some ⟨g, oo + k1 * 2, none⟩) (n - k1) (cap - k1) R HK.out.2.1 (by rfl) (HK.out.2.2.2.2.2.1.keep H7.out.2.size (fun z _ hz => H7.out.2.block z hz)) Z p HK.out.2.2.1 HK.out.2.2.2.1 (by omega) H7.out.2.size ?_
           intro A8 c8 w8 hrow8 hgr8
           have hb8 : Below W2.heap.size W2 w8 := (H7.out.2).grown hgr8 H7.out.2.size (fun k hk => (H7.out.1.lt k hk).1)
           have r4 : w8.cell? ⟨r, 4, none⟩ = some (.slice (some ⟨g, oo, none⟩) n cap) := (hb8.cell (p := ⟨r, 4, none⟩) hrl2).trans q4
           have rf4 : w8.frozen? ⟨r, 4, none⟩ = false := (hb8.frozen (p := ⟨r, 4, none⟩) hrl2).trans qf4
           have H8 := Lib.hid (And.intro hrow8 hb8)
           clear hrow8 hgr8 hb8))
      all_goals (try go_wp2_with (fail))
      all_goals go_end0
      all_goals
        obtain ⟨_, _, ho5, hbw⟩ := H5.out
        obtain ⟨_, _, _, _, _, _, hDe, hx, _⟩ := HX.out
        obtain ⟨_, _, _, hp, _, _, hZ, hcut⟩ := HK.out
        obtain ⟨f1, f2⟩ := give_done HQ.out hbw ho5 hcut H8.out.2 (hZ ▸ H8.out.1) hZ hp
        rw [hDe] at f1 f2
        exact ⟨rfl, _, _, _, f1, f2⟩
end Sl
end Go.Proofs.Ytlknhbcambdccaa
namespace Go.Proofs.Ytlknhbcambdccaa
open Go.RowKit
namespace Sl
open Bu

/-- What holds while the reference's cache is trimmed. -/
def TrimQ (w : World) (own : Own?) (r B ob s o kp N : Nat) (A : Option Addr) (L : List Blk) (l : List Slb) (k : Nat) (W : World) : Prop :=
  ∃ own' q' A' c', q'.map (·.1) = slK l k ∧ RefS W own' r B ob s o kp N q' A' c' (delK o L (l.drop k)) ∧ RefN own own' B ob A L w W A' c' (delK o L (l.drop k))

theorem slK_le (l : List Slb) (k : Nat) : (slK l k).length ≤ l.length := by
  unfold slK
  have h1 := List.length_filter_le full0 (l.drop k)
  simp only [List.length_append, List.length_take, List.length_drop] at h1 ⊢
  omega

theorem map_at {q : List RS} {l : List Slb} (h : q.map (·.1) = l) {j : Nat} {x : Slb} (hx : l[j]? = some x) : ∃ y, q[j]? = some y ∧ y.1 = x := by
  rw [← h, List.getElem?_map] at hx
  obtain ⟨y, h1, h2⟩ := Option.map_eq_some_iff.1 hx
  exact ⟨y, h1, h2⟩
theorem map_eraseIdx {q : List RS} {l : List Slb} (h : q.map (·.1) = l) (k : Nat) : (q.eraseIdx k).map (·.1) = l.eraseIdx k := by
  rw [← h]
  apply List.ext_getElem?
  intro i
  rw [List.getElem?_map, List.getElem?_eraseIdx, List.getElem?_eraseIdx, List.getElem?_map, List.getElem?_map]
  split <;> rfl

set_option maxRecDepth 100000 in
set_option maxHeartbeats 4000000 in
theorem trimR_ok (w : World) (own : Own?) (r B ob : Nat) (s o kp N : Nat) (L : List Blk) (q : List RS) (A : Option Addr) (cG : Nat) (hq0 : RefS w own r B ob s o kp N q A cG L) (l : List Slb) (hq : q.map (·.1) = l) (H : CaOk ⟨s, o, kp, l⟩ N L) :
    Calls Try.prog 57 #[.pointer (some ⟨r, 0, none⟩)] w fun e w' => e = .returned (.int .i64 (emptyS l : Int)) ∧ TrimQ w own r B ob s o kp N A L l 0 w' := by
  have hlen : l.length ≤ 1024 := ok_len H
  have h0 : TrimQ w own r B ob s o kp N A L l l.length w := by
    have := hq0.same (Below.refl _ _)
    refine ⟨own, q, A, cG, by rw [slK_len]; exact hq, ?_, ?_⟩
    · rw [List.drop_length]; exact this.1
    · rw [List.drop_length]; exact this.2
  have hok := fun k (hk : k ≤ l.length) => okK H (l.length - k) k (show k + (l.length - k) = l.length by omega)
  obtain ⟨n, hn⟩ : ∃ n, n = l.length := ⟨_, rfl⟩
  have hqn : q.length = n := by rw [hn, ← hq, List.length_map]
  obtain ⟨A0, cap0, hc, _, _⟩ := hq0.ref.cell
  obtain ⟨_, _, _, _, c4, _⟩ := five_cells hc
  rw [hqn] at c4
  rw [← hn] at h0 hlen
  have hdec : IntKind.i64.wrap ((n : Int) - 1) = (n : Int) - 1 := IntWalk.i64_in _ (by omega)
  have HX := Lib.hid (And.intro hn (And.intro h0 hok))
  clear hq0 hq H h0 hok hn hqn hc
  go_enter Try.func57, Try.ntmps57
  go_wp2_with (fail)
  clear c4
  go_loopw [3, 4] (fun m v wr => ∃ (k : Nat) (z : Int), k ≤ n ∧ z + 1 = (k : Int) ∧ v = .int .i64 z ∧ m = .int .i64 ((emptyS (l.drop k) : Nat) : Int) ∧ TrimQ w own r B ob s o kp N A L l k wr) (fun _ v _ => (intOf v + 1).toNat)
  case atStart => exact ⟨n, (n : Int) - 1, Nat.le_refl _, by omega, rfl, by rw [HX.out.1, List.drop_length]; rfl, HX.out.2.1⟩
  case round =>
    obtain ⟨k, z, hk, hz, rfl, rfl, own', q', A', c', hq', hS', hN'⟩ := hrel
    by_cases h1 : 1 ≤ k
    · obtain ⟨i, rfl⟩ : ∃ i : Nat, k = i + 1 := ⟨k - 1, by omega⟩
      obtain rfl : z = (i : Int) := by omega
      have hil : i < l.length := by have := HX.out.1; omega
      obtain ⟨x, hx⟩ : ∃ x, l[i]? = some x := ⟨_, List.getElem?_eq_getElem hil⟩
      have hx2 : (slK l (i + 1))[i]? = some x := by rw [slK_at hil]; exact hx
      obtain ⟨y, hy, hyx⟩ := map_at hq' hx2
      have hql : q'.length ≤ l.length := by rw [← List.length_map (f := (·.1)), hq']; exact slK_le l _
      have hyi := (List.getElem?_eq_some_iff.1 hy).1
      obtain ⟨g, oo, cap, hc, hl1, hl2, hg, d0, d1⟩ := ref_row hS'.ref hy
      obtain ⟨_, _, _, _, c4, _⟩ := five_cells hc
      have hus := usedR_ok wr (y.1.pg : Int) (some ⟨y.2.1, 0, none⟩) y.2.2 y.1.us (bool_row (hS'.ref.used i y hy).2)
      have hokk := HX.out.2.2 (i + 1) (by have := HX.out.1; omega)
      have hmem : (y.1.pg, o) ∈ delK o L (l.drop (i + 1)) := by rw [hyx]; exact hokk.giv x (List.mem_of_getElem? hx2)
      have hst := hokk.st
      unfold maxLen at hl2
      have hcnt : emptyS (l.drop i) = emptyS (l.drop (i + 1)) + if x.many = 0 then 1 else 0 := by
        obtain ⟨_, he⟩ := List.getElem?_eq_some_iff.1 hx
        rw [List.drop_eq_getElem_cons hil, he]
        unfold emptyS
        rw [List.filter_cons]
        by_cases e : x.many = 0 <;> simp [e]
      have hct : emptyS (l.drop (i + 1)) ≤ 1024 := by
        have h2 := List.length_filter_le (fun x => Slb.many x == 0) (l.drop (i + 1))
        have h3 := HX.out.1
        unfold emptyS
        simp only [List.length_drop] at h2 ⊢
        omega
      have hym : y.1.us.count true = x.many := by rw [hyx]; rfl
      rw [hym] at hus
      obtain ⟨E, hE⟩ : ∃ E, E = emptyS (l.drop (i + 1)) := ⟨_, rfl⟩
      rw [← hE] at hcnt hct ⊢
      obtain ⟨ql, hqle⟩ : ∃ ql, ql = q'.length := ⟨_, rfl⟩
      obtain ⟨p, hp⟩ : ∃ p, p = y.1.us.length := ⟨_, rfl⟩
      obtain ⟨m, hm⟩ : ∃ m, m = x.many := ⟨_, rfl⟩
      obtain ⟨pg, hpg⟩ : ∃ pg, pg = y.1.pg := ⟨_, rfl⟩
      rw [← hqle] at c4 hyi hl1
      rw [← hp] at d1 hus
      rw [← hpg] at d0 hus
      rw [← hm] at hus hcnt
      have hcw : IntKind.i64.wrap ((E : Int) + 1) = ((E + 1 : Nat) : Int) := by rw [IntWalk.i64_in _ (by omega)]; rfl
      have hkk : IntKind.i64.wrap ((i : Int) - 1) = (i : Int) - 1 := IntWalk.i64_in _ (by omega)
      have e0 : (0 : Int) ≤ (i : Int) := by omega
      have e1 : (i : Int) < (ql : Int) := by omega
      have hq2 : q'.length ≤ 2000 := by have := HX.out.1; omega
      have HU := Lib.hid hus
      have HS := Lib.hid (And.intro hq' (And.intro hS' (And.intro hN' (And.intro hx (And.intro hx2 (And.intro hy (And.intro hcnt (And.intro hm (And.intro hmem (And.intro hst hq2))))))))))
      clear hq' hS' hN' hx hx2 hy hyx hcnt hm hmem hst hus hokk hc hE hqle hp hpg hql hil hym hq2
      go_wp2_with (go_at_call 80; fail)
      refine HU.out.mono ?_
      rintro _ W2 ⟨rfl, hb2⟩
      obtain ⟨hS2, hN2⟩ := HS.out.2.1.same hb2
      have H2 := Lib.hid (And.intro hS2 (HS.out.2.2.1.trans hN2))
      clear hS2 hN2 hb2
      by_cases hm0 : m = 0
      · have hmb : (((m : Nat) : Int) == 0) = true := by simp [hm0]
        have hgive := giveR_ok W2 own' r B ob s o kp N _ q' A' c' H2.out.1 HS.out.2.2.2.2.2.2.2.2.2.1 HS.out.2.2.2.2.2.2.2.2.2.2 i y HS.out.2.2.2.2.2.1 HS.out.2.2.2.2.2.2.2.2.1
        have HG := Lib.hid hgive
        have HM := Lib.hid hm0
        clear hm0 hgive
        go_wp2_with (go_at_call 84; fail)
        refine HG.out.mono ?_
        rintro _ W3 ⟨rfl, own3, A3, c3, hS3, hN3⟩
        have H3 := Lib.hid (And.intro hS3 hN3)
        clear hS3 hN3
        go_wp2_with (fail)
        go_roundw
        case rel =>
          obtain ⟨hq', _, _, hx, hx2, hy, hcnt, hm, _⟩ := HS.out
          have hm0 := HM.out
          refine ⟨i, (i : Int) - 1, by omega, by omega, rfl, by rw [hcnt, if_pos hm0]; rfl, own3, q'.eraseIdx i, A3, c3, ?_, ?_, ?_⟩
          · rw [slK_gone hx (by rw [← hm]; exact hm0)]; exact map_eraseIdx hq' i
          · rw [delK_gone hx (by rw [← hm]; exact hm0)]
            have := H3.out.1
            have e : y.1 = x := by
              obtain ⟨y', hy', e⟩ := map_at hq' hx2
              rw [hy] at hy'; injection hy' with hy'; rw [hy']; exact e
            rw [e] at this; exact this
          · rw [delK_gone hx (by rw [← hm]; exact hm0)]
            have := H2.out.2.trans H3.out.2
            have e : y.1 = x := by
              obtain ⟨y', hy', e⟩ := map_at hq' hx2
              rw [hy] at hy'; injection hy' with hy'; rw [hy']; exact e
            rw [e] at this; exact this
        case measure => simp [intOf]
      · have hmb : (((m : Nat) : Int) == 0) = false := by simp [hm0]
        have HM := Lib.hid hm0
        clear hm0
        go_wp2_with (fail)
        go_roundw
        case rel =>
          obtain ⟨hq', _, _, hx, hx2, hy, hcnt, hm, _⟩ := HS.out
          have hm0 := HM.out
          refine ⟨i, (i : Int) - 1, by omega, by omega, rfl, by rw [hcnt, if_neg hm0]; rfl, own', q', A', c', ?_, ?_, ?_⟩
          · rw [slK_keep hx (by rw [← hm]; exact hm0)]; exact hq'
          · rw [delK_keep hx (by rw [← hm]; exact hm0)]; exact H2.out.1
          · rw [delK_keep hx (by rw [← hm]; exact hm0)]; exact H2.out.2
        case measure => simp [intOf]
    · obtain rfl : k = 0 := by omega
      obtain rfl : z = -1 := by omega
      have HI := Lib.hid (show TrimQ w own r B ob s o kp N A L l 0 wr from ⟨own', q', A', c', hq', hS', hN'⟩)
      clear hq' hS' hN'
      rw [List.drop_zero]
      go_wp2_with (fail)
      go_ret
      exact ⟨rfl, HI.out⟩
end Sl
end Go.Proofs.Ytlknhbcambdccaa
