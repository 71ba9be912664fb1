/- The examples of the document. The arguments: a state, a slice of blocks. (open_slice_fields and open_agg2 are after the guide's own worked blocks.) The walk of BuddyLoads. -/
import Derived.Test.YtlknhbcambdccaaK16
import Derived.Outline
import Derived.WalkKit
import Derived.ProofKit
import Derived.OpenShut
import Derived.ChangeOld
import Derived.Below
import Derived.Deep.Slices
import Derived.Deep.Fields
import Derived.ChangeSame
import Derived.Lib.SmallJoins
namespace Go.Proofs.Ytlknhbcambdccaa
open Go.RowKit
namespace Bu

theorem newL_ok (w : World) (N : Nat) (hN : N ≤ 10) : Calls Try.prog 15 #[.int .i64 (N : Int)] w fun e w' => e = .returned (.tuple #[.pointer (some ⟨w.heap.size, 0, none⟩), .int .i64 0]) ∧ BuL w' w.heap.size N [] ∧ Below w.heap.size w w' :=
  (new_ok w N hN).mono fun _ _ ⟨he, hB, hb⟩ => ⟨he, ⟨⟨_, _, hB, sem_new hN⟩, st_nil hN⟩, hb⟩

theorem al_some {w : World} {b N n p : Nat} {L L' : List Blk} (h : BuL w b N L) (hn : n ≤ 10) (he : allocB N L n = some (p, L')) :
    Calls Try.prog 39 #[.pointer (some ⟨b, 0, none⟩), .int .i64 (n : Int)] w fun e w' => e = .returned (.tuple #[.int .i64 (p : Int), .int .i64 0]) ∧ BuL w' b N L' ∧ Grow1 b w w' :=
  (allocL_ok w b N L n h hn).mono fun e w' ⟨hg, hm⟩ => by rw [he] at hm; exact ⟨hm.1, hm.2, hg⟩
theorem al_none {w : World} {b N n : Nat} {L : List Blk} (h : BuL w b N L) (hn : n ≤ 10) (he : allocB N L n = none) :
    Calls Try.prog 39 #[.pointer (some ⟨b, 0, none⟩), .int .i64 (n : Int)] w fun e w' => e = .returned (.tuple #[.int .i64 0, .int .i64 5]) ∧ BuL w' b N L ∧ Grow1 b w w' :=
  (allocL_ok w b N L n h hn).mono fun e w' ⟨hg, hm⟩ => by rw [he] at hm; exact ⟨hm.1, hm.2, hg⟩
theorem fr_some {w : World} {b N : Nat} {L L' : List Blk} {x : Blk} (h : BuL w b N L) (hx : InB N x) (hm : x ∈ L) (hL : delB L x = L') :
    Calls Try.prog 71 #[.pointer (some ⟨b, 0, none⟩), .int .i64 (x.1 : Int), .int .i64 (x.2 : Int)] w fun e w' => e = .returned (.int .i64 0) ∧ BuL w' b N L' ∧ Grow1 b w w' :=
  (freeL_ok w b N L x h hx).mono fun e w' ⟨hg, hr⟩ => by
    rcases hr with ⟨_, he, hB⟩ | ⟨hn, _⟩
    · exact ⟨he, by rw [← hL]; exact hB, hg⟩
    · exact absurd hm hn
theorem fr_none {w : World} {b N : Nat} {L : List Blk} {x : Blk} (h : BuL w b N L) (hx : InB N x) (hm : x ∉ L) :
    Calls Try.prog 71 #[.pointer (some ⟨b, 0, none⟩), .int .i64 (x.1 : Int), .int .i64 (x.2 : Int)] w fun e w' => e = .returned (.int .i64 9) ∧ BuL w' b N L ∧ Grow1 b w w' :=
  (freeL_ok w b N L x h hx).mono fun e w' ⟨hg, hr⟩ => by
    rcases hr with ⟨hn, _⟩ | ⟨_, he, hB⟩
    · exact absurd hn hm
    · exact ⟨he, hB, hg⟩

theorem s1 : allocB 3 [] 1 = some (0, [(0, 1)]) := by kernel_rfl
theorem s2 : allocB 3 [(0, 1)] 0 = some (2, [(0, 1), (2, 0)]) := by kernel_rfl
theorem s3 : allocB 3 [(0, 1), (2, 0)] 1 = some (4, [(0, 1), (2, 0), (4, 1)]) := by kernel_rfl
theorem s4 : blocksB 3 [(0, 1), (2, 0), (4, 1)] = [(3, 0), (6, 1)] := by kernel_rfl
theorem s5 : allocB 3 [(0, 1), (2, 0), (4, 1)] 2 = none := by kernel_rfl
theorem s6 : roomB 0 (blocksB 3 [(0, 1), (2, 0), (4, 1)]) = 3 := by kernel_rfl
theorem s7 : delB [(0, 1), (2, 0), (4, 1)] (0, 1) = [(2, 0), (4, 1)] := by kernel_rfl
theorem s8 : delB [(2, 0), (4, 1)] (2, 0) = [(4, 1)] := by kernel_rfl
theorem s9 : allocB 3 [(4, 1)] 2 = some (0, [(0, 2), (4, 1)]) := by kernel_rfl

theorem blk_lit2 (w : World) (a b c d : Nat) : BlkAt (w.alloc (.cells #[.int .i64 (a : Int), .int .i64 (b : Int), .int .i64 (c : Int), .int .i64 (d : Int)] 126)) (some ⟨w.heap.size, 0, none⟩) 2 [(a, b), (c, d)] := by
  have h : (w.alloc (.cells #[.int .i64 (a : Int), .int .i64 (b : Int), .int .i64 (c : Int), .int .i64 (d : Int)] 126)).heap[w.heap.size]? = some (.cells #[.int .i64 (a : Int), .int .i64 (b : Int), .int .i64 (c : Int), .int .i64 (d : Int)] 126 (0, 0)) := by rw [heapAlloc, if_pos rfl]
  refine ⟨Nat.le_refl _, by unfold maxLen; omega, fun j x hx => ⟨w.heap.size, 0, rfl, by simp, ?_⟩⟩
  rw [cell_of_row _ _ _ _ _ _ h, cell_of_row _ _ _ _ _ _ h]
  match j, hx with
  | 0, hx => injection hx with hx; subst hx; exact ⟨rfl, rfl⟩
  | 1, hx => injection hx with hx; subst hx; exact ⟨rfl, rfl⟩
  | j + 2, hx => simp at hx

theorem a1 {w : World} {b : Nat} (h : BuL w b 3 []) : Calls Try.prog 39 #[.pointer (some ⟨b, 0, none⟩), .int .i64 1] w fun e w' => e = .returned (.tuple #[.int .i64 0, .int .i64 0]) ∧ BuL w' b 3 [(0, 1)] ∧ Grow1 b w w' := al_some (n := 1) (p := 0) h (by decide) s1
theorem a2 {w : World} {b : Nat} (h : BuL w b 3 [(0, 1)]) : Calls Try.prog 39 #[.pointer (some ⟨b, 0, none⟩), .int .i64 0] w fun e w' => e = .returned (.tuple #[.int .i64 2, .int .i64 0]) ∧ BuL w' b 3 [(0, 1), (2, 0)] ∧ Grow1 b w w' := al_some (n := 0) (p := 2) h (by decide) s2
theorem a3 {w : World} {b : Nat} (h : BuL w b 3 [(0, 1), (2, 0)]) : Calls Try.prog 39 #[.pointer (some ⟨b, 0, none⟩), .int .i64 1] w fun e w' => e = .returned (.tuple #[.int .i64 4, .int .i64 0]) ∧ BuL w' b 3 [(0, 1), (2, 0), (4, 1)] ∧ Grow1 b w w' := al_some (n := 1) (p := 4) h (by decide) s3
theorem a9 {w : World} {b : Nat} (h : BuL w b 3 [(4, 1)]) : Calls Try.prog 39 #[.pointer (some ⟨b, 0, none⟩), .int .i64 2] w fun e w' => e = .returned (.tuple #[.int .i64 0, .int .i64 0]) ∧ BuL w' b 3 [(0, 2), (4, 1)] ∧ Grow1 b w w' := al_some (n := 2) (p := 0) h (by decide) s9
theorem a4 {w : World} {b : Nat} (h : BuL w b 3 [(0, 1), (2, 0), (4, 1)]) : Calls Try.prog 45 #[.pointer (some ⟨b, 0, none⟩)] w fun e w' => (∃ A c, e = .returned (.tuple #[.slice A 2 c, .int .i64 0]) ∧ BlkAt w' A c [(3, 0), (6, 1)]) ∧ Below w.heap.size w w' := by
  refine (blocks_ok w b 3 _ h).mono ?_
  rintro e w' ⟨⟨A, c, he, ho⟩, hb⟩
  rw [s4] at he ho
  exact ⟨⟨A, c, he, ho.at.1⟩, hb⟩
theorem a5 {w : World} {b : Nat} (h : BuL w b 3 [(0, 1), (2, 0), (4, 1)]) : Calls Try.prog 39 #[.pointer (some ⟨b, 0, none⟩), .int .i64 2] w fun e w' => e = .returned (.tuple #[.int .i64 0, .int .i64 5]) ∧ BuL w' b 3 [(0, 1), (2, 0), (4, 1)] ∧ Grow1 b w w' := al_none (n := 2) h (by decide) s5
theorem a6 {w : World} {b : Nat} (h : BuL w b 3 [(0, 1), (2, 0), (4, 1)]) : Calls Try.prog 51 #[.pointer (some ⟨b, 0, none⟩), .int .i64 0] w fun e w' => e = .returned (.tuple #[.int .i64 3, .int .i64 0]) ∧ Below w.heap.size w w' := by
  have := roomL_ok w b 3 _ 0 h (by decide)
  rw [s6] at this
  exact this
theorem a7 {w : World} {b : Nat} (h : BuL w b 3 [(0, 1), (2, 0), (4, 1)]) : Calls Try.prog 71 #[.pointer (some ⟨b, 0, none⟩), .int .i64 0, .int .i64 0] w fun e w' => e = .returned (.int .i64 9) ∧ BuL w' b 3 [(0, 1), (2, 0), (4, 1)] ∧ Grow1 b w w' := fr_none (x := (0, 0)) h (by decide) (by decide)
theorem a8 {w : World} {b : Nat} (h : BuL w b 3 [(0, 1), (2, 0), (4, 1)]) : Calls Try.prog 71 #[.pointer (some ⟨b, 0, none⟩), .int .i64 0, .int .i64 1] w fun e w' => e = .returned (.int .i64 0) ∧ BuL w' b 3 [(2, 0), (4, 1)] ∧ Grow1 b w w' := fr_some (x := (0, 1)) h (by decide) (by decide) s7
theorem a8b {w : World} {b : Nat} (h : BuL w b 3 [(2, 0), (4, 1)]) : Calls Try.prog 71 #[.pointer (some ⟨b, 0, none⟩), .int .i64 2, .int .i64 0] w fun e w' => e = .returned (.int .i64 0) ∧ BuL w' b 3 [(4, 1)] ∧ Grow1 b w w' := fr_some (x := (2, 0)) h (by decide) (by decide) s8
theorem same22 {w : World} {A B : Option Addr} {c d : Nat} (h1 : BlkAt w A c [(3, 0), (6, 1)]) (h2 : BlkAt w B d [(3, 0), (6, 1)]) : Calls Try.prog 50 #[.slice A 2 c, .slice B 2 d] w fun e w' => e = .returned (.bool true) ∧ ∃ n, w' = w.drewN n := sameB_ok w A B c d _ _ h1 h2

end Bu
end Go.Proofs.Ytlknhbcambdccaa
namespace Go.Proofs.Ytlknhbcambdccaa
namespace Bu
open Go.ChangeShapes Go.WideShapes Go.ChangeAt Go.RowKit Go.Deep Go.Joins
section
variable {H : Type} {enc : TypeId × Value → H} {P : Program} {w : World} {base : Nat} {spare : Nat → Bool} {held : Bool}
theorem open_slice_fields {t e : TypeId} {fs : Array Field} {fuel : Nat} {cs : List Value} {x : DataW H × List MemPlace} (ht : P.underlying t = some (.slice e)) (he : P.underlying e = some (.struct fs))
    (hone : oneCellFields P fs = true) (hC : P.cellsOf e = fs.size) (h : DataW.trod enc P w base spare held fuel t cs = some x) :
    (cs = [.slice none 0 0] ∧ x = (.nil, [])) ∨
    ∃ (a : Addr) (len cap m : Nat) (D : Nat → DataW H) (Pl : Nat → List MemPlace), cs = [.slice (some a) len cap] ∧ base ≤ a.block ∧ len ≤ cap ∧ cap ≤ maxLen ∧ m = (if spare a.block then cap else len) ∧
      x = (.slice ((List.range len).map D) ((List.range (m - len)).map fun j => D (len + j)), MemPlace.row a (m * fs.size) ++ (List.range m).flatMap Pl) ∧
      ∀ i, i < m → ∃ (ys : List (DataW H × List MemPlace)) (n : Nat), D i = .agg (ys.map (·.1)) ∧ Pl i = ys.flatMap (·.2) ∧ ys.length = fs.size ∧
        ∀ (j : Nat) (f : Field), fs[j]? = some f → ∃ (v : Value) (y : DataW H × List MemPlace), w.cell? (a.add (i * fs.size + j)) = some v ∧ ys[j]? = some y ∧ DataW.trod enc P w base spare held n f.type [v] = some y := by
  rcases open_slice ht h with h0 | ⟨a, len, cap, m, n, D, Pl, hcs, hb, hl, hm, hmm, hx, hi⟩
  · exact .inl h0
  · refine .inr ⟨a, len, cap, m, D, Pl, hcs, hb, hl, hm, hmm, by rw [hC] at hx; exact hx, fun i him => ?_⟩
    obtain ⟨cs', hc, ht'⟩ := hi i him
    rw [hC] at hc
    obtain ⟨ys, n', hn', hy, hlen, hyl, hf⟩ := DataW.trod_struct he ht'
    obtain ⟨_, hcl, hat⟩ := World.cells?_some hc
    simp only [Prod.mk.injEq] at hy
    refine ⟨ys, n', hy.1, hy.2, hyl, fun j f hj => ?_⟩
    obtain ⟨ho, hk⟩ := hone_of hone j f hj
    have hjl : j < fs.size := (Array.getElem?_eq_some_iff.1 hj).1
    have hcell := hat j hjl
    have hv : cs'[j]? = some (cs'[j]'(by omega)) := List.getElem?_eq_getElem (by omega)
    have h1 := hf j f hj
    rw [ho, hk] at h1
    have hone' : (cs'.drop j).take 1 = [cs'[j]'(by omega)] := by
      rw [List.drop_eq_getElem_cons (by omega)]
      rfl
    rw [hone'] at h1
    have hys : ys[j]? = some (ys[j]'(by omega)) := List.getElem?_eq_getElem (by omega)
    refine ⟨_, _, ?_, hys, h1.trans hys⟩
    rw [← Go.Deep.add_add, hcell, hv]
end
section
variable {H : Type} {enc : TypeId × Value → H} {P : Program} {w : World} {base : Nat} {spare : Nat → Bool} {held : Bool}
theorem open_agg2f {r : Reach} {b0 : Nat} {t : TypeId} {f0 f1 : Field} {v : Value} {d : DataW H} {p : List MemPlace} (hs : P.underlying t = some (.struct #[f0, f1])) (hone : oneCellFields P #[f0, f1] = true) (hC : P.cellsOf t = 2)
    (hv : Value.okWide P w r b0 t v) (h : DataW.Trod enc P w base spare held t v d p) :
    ∃ (v0 v1 : Value) (y0 y1 : DataW H × List MemPlace) (n : Nat), v = .agg #[v0, v1] ∧ DataW.trod enc P w base spare held n f0.type [v0] = some y0 ∧ DataW.trod enc P w base spare held n f1.type [v1] = some y1 := by
  obtain ⟨cs, rfl, hsz⟩ := okWide_struct hs hv
  obtain ⟨l⟩ := cs
  match l, hsz.trans hC with
  | [c0, c1], _ =>
    obtain ⟨fuel, hf⟩ := h
    obtain ⟨xs, n, _, hx, _, hlen, hg⟩ := DataW.trod_struct hs hf
    obtain ⟨o0, k0⟩ := hone_of hone 0 f0 rfl
    obtain ⟨o1, k1⟩ := hone_of hone 1 f1 rfl
    match xs, hlen with
    | [y0, y1], _ =>
      exact ⟨c0, c1, y0, y1, n, rfl, by simpa [Value.cells, o0, k0] using hg 0 f0 rfl, by simpa [Value.cells, o1, k1] using hg 1 f1 rfl⟩
end

theorem list_of {α : Type} (P : Nat → α → Prop) : ∀ len : Nat, (∀ j : Nat, j < len → ∃ x, P j x) → ∃ l : List α, l.length = len ∧ ∀ (j : Nat) (x : α), l[j]? = some x → P j x := by
  intro len
  induction len with
  | zero => exact fun _ => ⟨[], rfl, fun j x hx => by simp at hx⟩
  | succ n ih =>
    intro h
    obtain ⟨l, hl, hp⟩ := ih (fun j hj => h j (by omega))
    obtain ⟨x, hx⟩ := h n (by omega)
    refine ⟨l ++ [x], by simp [hl], fun j y hy => ?_⟩
    rcases Nat.lt_or_ge j n with hj | hj
    · exact hp j y (by rwa [List.getElem?_append_left (by omega)] at hy)
    · rw [List.getElem?_append_right (by omega)] at hy
      have : j = n := by
        have := (List.getElem?_eq_some_iff.1 hy).1
        simp at this; omega
      subst this
      rw [hl, Nat.sub_self] at hy
      obtain rfl : x = y := by simpa using hy
      exact hx

theorem add_plain (g o n : Nat) : (⟨g, o, none⟩ : Addr).add n = ⟨g, o + n, none⟩ := by
  unfold Addr.add
  split
  · next h => rw [h]; rfl
  · rfl

section
variable {H : Type} {enc : TypeId × Value → H} {W : World} {v : Value} {d : DataW H} {p : List MemPlace}

set_option maxRecDepth 100000 in
theorem open_blocks {fuel : Nat} {cs : List Value} {x : DataW H × List MemPlace} (hf : DataW.trod enc Try.prog W 0 (fun _ => true) true fuel 44 cs = some x) :
    ∃ (A : Option Addr) (c : Nat) (l : List (Int × Int)), cs = [.slice A l.length c] ∧ ZAt W A c l := by
  rcases open_slice_fields Try.underlying44 Try.underlying126 (by kernel_rfl) (by kernel_rfl) hf with ⟨hcs, _⟩ | ⟨a, len, cap, m, D, Pl, hcs, _, hl, hm, hmm, _, hi⟩
  · exact ⟨none, 0, [], hcs, Nat.le_refl _, Nat.zero_le _, fun j x hx => by simp at hx⟩
  · have hlm : len ≤ m := by rw [hmm]; split <;> omega
    have hspot : 0 < len → a.spot = none := by
      intro h0
      obtain ⟨ys, n, _, _, _, hfl⟩ := hi 0 (by omega)
      obtain ⟨v0, y0, c0, _, t0⟩ := hfl 0 _ rfl
      have := World.cell?_spot c0
      rwa [Nat.zero_mul, Addr.add, if_pos rfl] at this
    have key : ∀ j : Nat, j < len → ∃ x : Int × Int, ∃ g o, some a = some ⟨g, o, none⟩ ∧ g < W.heap.size ∧ W.cell? ⟨g, o + j * 2, none⟩ = some (.int .i64 x.1) ∧ W.cell? ⟨g, o + j * 2 + 1, none⟩ = some (.int .i64 x.2) := by
      intro j hj
      obtain ⟨ys, n, _, _, _, hfl⟩ := hi j (by omega)
      obtain ⟨v0, y0, c0, _, t0⟩ := hfl 0 _ rfl
      obtain ⟨v1, y1, c1, _, t1⟩ := hfl 1 _ rfl
      obtain ⟨n0, e0, _, _⟩ := DataW.trod_int Try.underlying3 t0
      obtain ⟨n1, e1, _, _⟩ := DataW.trod_int Try.underlying3 t1
      simp only [List.cons.injEq, and_true] at e0 e1
      subst e0 e1
      obtain ⟨g, o, spot⟩ := a
      obtain rfl : spot = none := hspot (by omega)
      rw [add_plain] at c0 c1
      have hg : g < W.heap.size := World.block_lt_of_cell? _ (a := ⟨g, _, none⟩) c0
      exact ⟨(n0, n1), g, o, rfl, hg, by simpa [Nat.add_assoc] using c0, by simpa [Nat.add_assoc] using c1⟩
    obtain ⟨l, rfl, hp⟩ := list_of _ len key
    exact ⟨some a, cap, l, hcs, hl, hm, hp⟩

set_option maxRecDepth 100000 in
theorem open_state {r : Reach} {b0 : Nat} (hv : Value.okWide Try.prog W r b0 46 v) (h : DataW.Trod enc Try.prog W 0 (fun _ => true) true 46 v d p) :
    ∃ (N : Int) (A : Option Addr) (c : Nat) (l : List (Int × Int)), v = sv N A l.length c ∧ ZAt W A c l := by
  obtain ⟨v0, v1, y0, y1, n, rfl, t0, t1⟩ := open_agg2f Try.underlying46 (by kernel_rfl) (by kernel_rfl) hv h
  obtain ⟨N, e0, _, _⟩ := DataW.trod_int Try.underlying3 t0
  obtain ⟨A, c, l, e1, hl⟩ := open_blocks t1
  simp only [List.cons.injEq, and_true] at e0 e1
  subst e0 e1
  exact ⟨N, A, c, l, rfl, hl⟩
end
end Bu
end Go.Proofs.Ytlknhbcambdccaa
namespace Go.Proofs.Ytlknhbcambdccaa
open Go.RowKit
namespace Bu

theorem zb_map_inj {A B : List Blk} (h : A.map zb = B.map zb) : A = B := by
  induction A generalizing B with
  | nil => cases B with
    | nil => rfl
    | cons y B => cases h
  | cons x A ih =>
    cases B with
    | nil => cases h
    | cons y B =>
      simp only [List.map_cons, List.cons.injEq] at h
      rw [zb_inj h.1, ih h.2]

theorem same_self (w : World) (N : Nat) (A B : Option Addr) (c d : Nat) (L : List Blk) (h1 : BlkAt w A c L) (h2 : BlkAt w B d L) :
    Calls Try.prog 21 #[sv N A L.length c, sv N B L.length d] w fun e w' => e = .returned (.bool true) ∧ Below w.heap.size w w' := by
  have := same_ok w N N A B c d L L h1 h2
  rw [decide_eq_true (show ((N : Int) = (N : Int) ∧ L = L) from ⟨rfl, rfl⟩)] at this
  exact this

/-- Below, step by step. -/
theorem below_step {n : Nat} {a b c : World} (h : Below n a b) (k : Below b.heap.size b c) (hn : n ≤ a.heap.size) : Below n a c := h.trans (k.mono (Nat.le_trans hn h.size))
theorem below_step' {n : Nat} {a b c : World} (h : Below n a b) (k : Below (World.drew b).heap.size (World.drew b) c) (hn : n ≤ a.heap.size) : Below n a c := below_step h ⟨k.os, k.tape, k.output, k.size, k.block⟩ hn

end Bu
end Go.Proofs.Ytlknhbcambdccaa
