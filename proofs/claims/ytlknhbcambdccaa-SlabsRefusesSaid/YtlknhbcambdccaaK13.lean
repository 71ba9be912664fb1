/- The arguments: a state, a slice of blocks. (open_slice_fields and open_agg2 are after the guide's own worked blocks.) The walk of BuddyLoads. What step leans on. Valid states; blocks of an order that are free. -/
import Derived.Test.YtlknhbcambdccaaK12
import Derived.WalkKit
import Derived.ProofKit
import Derived.OpenShut
import Derived.ChangeOld
import Derived.Below
import Derived.Deep.Slices
import Derived.Deep.Fields
import Derived.ChangeSame
import Derived.Lib.SmallJoins
import Derived.Test.YtlknhbcambdccaaK0
namespace Go.Proofs.Ytlknhbcambdccaa
namespace Bu
open Go.ChangeShapes Go.WideShapes Go.ChangeAt Go.RowKit Go.Deep Go.Joins
section
variable {H : Type} {enc : TypeId × Value → H} {P : Program} {w : World} {base : Nat} {spare : Nat → Bool} {held : Bool}
theorem open_slice_fields {t e : TypeId} {fs : Array Field} {fuel : Nat} {cs : List Value} {x : DataW H × List MemPlace} (ht : P.underlying t = some (.slice e)) (he : P.underlying e = some (.struct fs))
    (hone : oneCellFields P fs = true) (hC : P.cellsOf e = fs.size) (h : DataW.trod enc P w base spare held fuel t cs = some x) :
    (cs = [.slice none 0 0] ∧ x = (.nil, [])) ∨
    ∃ (a : Addr) (len cap m : Nat) (D : Nat → DataW H) (Pl : Nat → List MemPlace), cs = [.slice (some a) len cap] ∧ base ≤ a.block ∧ len ≤ cap ∧ cap ≤ maxLen ∧ m = (if spare a.block then cap else len) ∧
      x = (.slice ((List.range len).map D) ((List.range (m - len)).map fun j => D (len + j)), MemPlace.row a (m * fs.size) ++ (List.range m).flatMap Pl) ∧
      ∀ i, i < m → ∃ (ys : List (DataW H × List MemPlace)) (n : Nat), D i = .agg (ys.map (·.1)) ∧ Pl i = ys.flatMap (·.2) ∧ ys.length = fs.size ∧
        ∀ (j : Nat) (f : Field), fs[j]? = some f → ∃ (v : Value) (y : DataW H × List MemPlace), w.cell? (a.add (i * fs.size + j)) = some v ∧ ys[j]? = some y ∧ DataW.trod enc P w base spare held n f.type [v] = some y := by
  rcases open_slice ht h with h0 | ⟨a, len, cap, m, n, D, Pl, hcs, hb, hl, hm, hmm, hx, hi⟩
  · exact .inl h0
  · refine .inr ⟨a, len, cap, m, D, Pl, hcs, hb, hl, hm, hmm, by rw [hC] at hx; exact hx, fun i him => ?_⟩
    obtain ⟨cs', hc, ht'⟩ := hi i him
    rw [hC] at hc
    obtain ⟨ys, n', hn', hy, hlen, hyl, hf⟩ := DataW.trod_struct he ht'
    obtain ⟨_, hcl, hat⟩ := World.cells?_some hc
    simp only [Prod.mk.injEq] at hy
    refine ⟨ys, n', hy.1, hy.2, hyl, fun j f hj => ?_⟩
    obtain ⟨ho, hk⟩ := hone_of hone j f hj
    have hjl : j < fs.size := (Array.getElem?_eq_some_iff.1 hj).1
    have hcell := hat j hjl
    have hv : cs'[j]? = some (cs'[j]'(by omega)) := List.getElem?_eq_getElem (by omega)
    have h1 := hf j f hj
    rw [ho, hk] at h1
    have hone' : (cs'.drop j).take 1 = [cs'[j]'(by omega)] := by
      rw [List.drop_eq_getElem_cons (by omega)]
      rfl
    rw [hone'] at h1
    have hys : ys[j]? = some (ys[j]'(by omega)) := List.getElem?_eq_getElem (by omega)
    refine ⟨_, _, ?_, hys, h1.trans hys⟩
    rw [← Go.Deep.add_add, hcell, hv]
end
section
variable {H : Type} {enc : TypeId × Value → H} {P : Program} {w : World} {base : Nat} {spare : Nat → Bool} {held : Bool}
theorem open_agg2f {r : Reach} {b0 : Nat} {t : TypeId} {f0 f1 : Field} {v : Value} {d : DataW H} {p : List MemPlace} (hs : P.underlying t = some (.struct #[f0, f1])) (hone : oneCellFields P #[f0, f1] = true) (hC : P.cellsOf t = 2)
    (hv : Value.okWide P w r b0 t v) (h : DataW.Trod enc P w base spare held t v d p) :
    ∃ (v0 v1 : Value) (y0 y1 : DataW H × List MemPlace) (n : Nat), v = .agg #[v0, v1] ∧ DataW.trod enc P w base spare held n f0.type [v0] = some y0 ∧ DataW.trod enc P w base spare held n f1.type [v1] = some y1 := by
  obtain ⟨cs, rfl, hsz⟩ := okWide_struct hs hv
  obtain ⟨l⟩ := cs
  match l, hsz.trans hC with
  | [c0, c1], _ =>
    obtain ⟨fuel, hf⟩ := h
    obtain ⟨xs, n, _, hx, _, hlen, hg⟩ := DataW.trod_struct hs hf
    obtain ⟨o0, k0⟩ := hone_of hone 0 f0 rfl
    obtain ⟨o1, k1⟩ := hone_of hone 1 f1 rfl
    match xs, hlen with
    | [y0, y1], _ =>
      exact ⟨c0, c1, y0, y1, n, rfl, by simpa [Value.cells, o0, k0] using hg 0 f0 rfl, by simpa [Value.cells, o1, k1] using hg 1 f1 rfl⟩
end

theorem list_of {α : Type} (P : Nat → α → Prop) : ∀ len : Nat, (∀ j : Nat, j < len → ∃ x, P j x) → ∃ l : List α, l.length = len ∧ ∀ (j : Nat) (x : α), l[j]? = some x → P j x := by
  intro len
  induction len with
  | zero => exact fun _ => ⟨[], rfl, fun j x hx => by simp at hx⟩
  | succ n ih =>
    intro h
    obtain ⟨l, hl, hp⟩ := ih (fun j hj => h j (by omega))
    obtain ⟨x, hx⟩ := h n (by omega)
    refine ⟨l ++ [x], by simp [hl], fun j y hy => ?_⟩
    rcases Nat.lt_or_ge j n with hj | hj
    · exact hp j y (by rwa [List.getElem?_append_left (by omega)] at hy)
    · rw [List.getElem?_append_right (by omega)] at hy
      have : j = n := by
        have := (List.getElem?_eq_some_iff.1 hy).1
        simp at this; omega
      subst this
      rw [hl, Nat.sub_self] at hy
      obtain rfl : x = y := by simpa using hy
      exact hx

theorem add_plain (g o n : Nat) : (⟨g, o, none⟩ : Addr).add n = ⟨g, o + n, none⟩ := by
  unfold Addr.add
  split
  · next h => rw [h]; rfl
  · rfl

section
variable {H : Type} {enc : TypeId × Value → H} {W : World} {v : Value} {d : DataW H} {p : List MemPlace}

set_option maxRecDepth 100000 in
theorem open_blocks {fuel : Nat} {cs : List Value} {x : DataW H × List MemPlace} (hf : DataW.trod enc Try.prog W 0 (fun _ => true) true fuel 44 cs = some x) :
    ∃ (A : Option Addr) (c : Nat) (l : List (Int × Int)), cs = [.slice A l.length c] ∧ ZAt W A c l := by
  rcases open_slice_fields Try.underlying44 Try.underlying126 (by kernel_rfl) (by kernel_rfl) hf with ⟨hcs, _⟩ | ⟨a, len, cap, m, D, Pl, hcs, _, hl, hm, hmm, _, hi⟩
  · exact ⟨none, 0, [], hcs, Nat.le_refl _, Nat.zero_le _, fun j x hx => by simp at hx⟩
  · have hlm : len ≤ m := by rw [hmm]; split <;> omega
    have hspot : 0 < len → a.spot = none := by
      intro h0
      obtain ⟨ys, n, _, _, _, hfl⟩ := hi 0 (by omega)
      obtain ⟨v0, y0, c0, _, t0⟩ := hfl 0 _ rfl
      have := World.cell?_spot c0
      rwa [Nat.zero_mul, Addr.add, if_pos rfl] at this
    have key : ∀ j : Nat, j < len → ∃ x : Int × Int, ∃ g o, some a = some ⟨g, o, none⟩ ∧ g < W.heap.size ∧ W.cell? ⟨g, o + j * 2, none⟩ = some (.int .i64 x.1) ∧ W.cell? ⟨g, o + j * 2 + 1, none⟩ = some (.int .i64 x.2) := by
      intro j hj
      obtain ⟨ys, n, _, _, _, hfl⟩ := hi j (by omega)
      obtain ⟨v0, y0, c0, _, t0⟩ := hfl 0 _ rfl
      obtain ⟨v1, y1, c1, _, t1⟩ := hfl 1 _ rfl
      obtain ⟨n0, e0, _, _⟩ := DataW.trod_int Try.underlying3 t0
      obtain ⟨n1, e1, _, _⟩ := DataW.trod_int Try.underlying3 t1
      simp only [List.cons.injEq, and_true] at e0 e1
      subst e0 e1
      obtain ⟨g, o, spot⟩ := a
      obtain rfl : spot = none := hspot (by omega)
      rw [add_plain] at c0 c1
      have hg : g < W.heap.size := World.block_lt_of_cell? _ (a := ⟨g, _, none⟩) c0
      exact ⟨(n0, n1), g, o, rfl, hg, by simpa [Nat.add_assoc] using c0, by simpa [Nat.add_assoc] using c1⟩
    obtain ⟨l, rfl, hp⟩ := list_of _ len key
    exact ⟨some a, cap, l, hcs, hl, hm, hp⟩

set_option maxRecDepth 100000 in
theorem open_state {r : Reach} {b0 : Nat} (hv : Value.okWide Try.prog W r b0 46 v) (h : DataW.Trod enc Try.prog W 0 (fun _ => true) true 46 v d p) :
    ∃ (N : Int) (A : Option Addr) (c : Nat) (l : List (Int × Int)), v = sv N A l.length c ∧ ZAt W A c l := by
  obtain ⟨v0, v1, y0, y1, n, rfl, t0, t1⟩ := open_agg2f Try.underlying46 (by kernel_rfl) (by kernel_rfl) hv h
  obtain ⟨N, e0, _, _⟩ := DataW.trod_int Try.underlying3 t0
  obtain ⟨A, c, l, e1, hl⟩ := open_blocks t1
  simp only [List.cons.injEq, and_true] at e0 e1
  subst e0 e1
  exact ⟨N, A, c, l, rfl, hl⟩
end
end Bu
end Go.Proofs.Ytlknhbcambdccaa
namespace Go.Proofs.Ytlknhbcambdccaa
open Go.RowKit
namespace Bu

theorem zb_map_inj {A B : List Blk} (h : A.map zb = B.map zb) : A = B := by
  induction A generalizing B with
  | nil => cases B with
    | nil => rfl
    | cons y B => cases h
  | cons x A ih =>
    cases B with
    | nil => cases h
    | cons y B =>
      simp only [List.map_cons, List.cons.injEq] at h
      rw [zb_inj h.1, ih h.2]

theorem same_self (w : World) (N : Nat) (A B : Option Addr) (c d : Nat) (L : List Blk) (h1 : BlkAt w A c L) (h2 : BlkAt w B d L) :
    Calls Try.prog 21 #[sv N A L.length c, sv N B L.length d] w fun e w' => e = .returned (.bool true) ∧ Below w.heap.size w w' := by
  have := same_ok w N N A B c d L L h1 h2
  rw [decide_eq_true (show ((N : Int) = (N : Int) ∧ L = L) from ⟨rfl, rfl⟩)] at this
  exact this

/-- Below, step by step. -/
theorem below_step {n : Nat} {a b c : World} (h : Below n a b) (k : Below b.heap.size b c) (hn : n ≤ a.heap.size) : Below n a c := h.trans (k.mono (Nat.le_trans hn h.size))
theorem below_step' {n : Nat} {a b c : World} (h : Below n a b) (k : Below (World.drew b).heap.size (World.drew b) c) (hn : n ≤ a.heap.size) : Below n a c := below_step h ⟨k.os, k.tape, k.output, k.size, k.block⟩ hn

end Bu
end Go.Proofs.Ytlknhbcambdccaa
namespace Go.Proofs.Ytlknhbcambdccaa
open Go.RowKit
namespace Bu

theorem next_le {N : Nat} {pre L : List Blk} {x : Blk} (hS : St N (pre ++ x :: L)) : nextB pre ≤ x.1 := by
  rcases List.eq_nil_or_concat pre with rfl | ⟨M, y, rfl⟩
  · exact Nat.zero_le _
  · rw [List.concat_eq_append] at hS ⊢
    rw [nextB_add]
    exact (List.pairwise_append.1 hS.asc).2.2 y (by simp) x (List.mem_cons_self ..)

theorem chkZ_of {N : Nat} (hN : N ≤ 10) : ∀ (L pre : List Blk), St N (pre ++ L) → chkZ N (nextB pre : Int) (L.map zb) = true := by
  intro L
  induction L with
  | nil => intro pre _; rw [List.map_nil, chkZ]
  | cons x L ih =>
    intro pre hS
    have hx := hS.inb x (by simp)
    have hle := next_le hS
    rw [List.map_cons, chkZ_next]
    have e1 : inZ N (zb x).1 (zb x).2 = true := by
      show inZ N (x.1 : Int) (x.2 : Int) = true
      rw [inZ_nat hN, decide_eq_true_eq]; exact hx
    have e2 : decide ((nextB pre : Int) ≤ (zb x).1) = true := by
      rw [decide_eq_true_eq]
      show (nextB pre : Int) ≤ (x.1 : Int)
      omega
    rw [e1, e2]
    have := ih (pre ++ [x]) (by rw [List.append_assoc]; exact hS)
    rw [nextB_add] at this
    have e3 : (zb x).1 + ((2 ^ (zb x).2.toNat : Nat) : Int) = ((x.1 + 2 ^ x.2 : Nat) : Int) := by
      show (x.1 : Int) + ((2 ^ ((x.2 : Nat) : Int).toNat : Nat) : Int) = _
      rw [Int.toNat_natCast]; omega
    rw [e3, this]; rfl

/-- A valid list passes Check. -/
theorem check_of {N : Nat} {L : List Blk} (hS : St N L) : checkV (N : Int) (L.map zb) = 0 := by
  have hn := hS.n10
  unfold checkV
  rw [if_pos (by omega), Int.toNat_natCast]
  have h : chkZ N 0 (L.map zb) = true := chkZ_of hn L [] hS
  rw [if_pos h]

/-- Load of a valid state. -/
theorem load_st {w : World} {N c : Nat} {A : Option Addr} {L : List Blk} (h : BlkAt w A c L) (hS : St N L) :
    Calls Try.prog 32 #[sv N A L.length c] w fun e w' => ∃ b, e = .returned (.tuple #[.pointer (some ⟨b, 0, none⟩), .int .i64 0]) ∧ BuL w' b N L ∧ w.heap.size ≤ b ∧ Below w.heap.size w w' := by
  have hl := load_ok w (N : Int) A c (L.map zb) h
  rw [List.length_map] at hl
  refine hl.mono ?_
  rintro e w' ⟨hb, ⟨h1, _⟩ | ⟨_, b, M, B, hN, hL, he, hB, hbw⟩⟩
  · exact absurd (check_of hS) h1
  · obtain rfl : N = M := by omega
    obtain rfl := zb_map_inj hL
    exact ⟨b, he, hB, hbw, hb⟩
end Bu
end Go.Proofs.Ytlknhbcambdccaa
namespace Go.Proofs.Ytlknhbcambdccaa
open Go.RowKit
namespace Bu

theorem chkZ_is {N : Nat} : ∀ (L : List (Int × Int)) (s : Nat), chkZ N (s : Int) L = true →
    ∃ G : List Blk, L = G.map zb ∧ (∀ x ∈ G, InB N x) ∧ G.Pairwise (fun a b => a.1 + 2 ^ a.2 ≤ b.1) ∧ ∀ x ∈ G, s ≤ x.1 := by
  intro L
  induction L with
  | nil => intro s _; exact ⟨[], rfl, fun x hx => (by cases hx), List.Pairwise.nil, fun x hx => (by cases hx)⟩
  | cons z L ih =>
    intro s h
    rw [chkZ, Bool.and_eq_true, Bool.and_eq_true, decide_eq_true_eq] at h
    obtain ⟨⟨h1, h2⟩, h3⟩ := h
    obtain ⟨q, k, e1, e2, hin⟩ := inZ_true h1
    have hs : z.1 + ((2 ^ z.2.toNat : Nat) : Int) = ((q + 2 ^ k : Nat) : Int) := by rw [e1, e2, Int.toNat_natCast]; omega
    rw [hs] at h3
    obtain ⟨G, hG, g1, g2, g3⟩ := ih _ h3
    refine ⟨(q, k) :: G, ?_, ?_, ?_, ?_⟩
    · rw [List.map_cons, hG]; congr 1; exact Prod.ext e1 e2
    · intro x hx
      rcases List.mem_cons.1 hx with rfl | hx
      · exact hin
      · exact g1 x hx
    · exact List.pairwise_cons.2 ⟨fun x hx => g3 x hx, g2⟩
    · intro x hx
      rcases List.mem_cons.1 hx with rfl | hx
      · show s ≤ q; omega
      · have h4 : q + 2 ^ k ≤ x.1 := g3 x hx
        have := pow_pos2 k
        have : s ≤ q := by omega
        omega

/-- A state that passes Check. -/
theorem check_is {N : Int} {L : List (Int × Int)} (h : checkV N L = 0) : ∃ (M : Nat) (G : List Blk), N = (M : Int) ∧ L = G.map zb ∧ St M G := by
  unfold checkV at h
  by_cases hN : 0 ≤ N ∧ N ≤ 10
  · rw [if_pos hN] at h
    obtain ⟨M, rfl⟩ := Int.eq_ofNat_of_zero_le hN.1
    rw [Int.toNat_natCast] at h
    have hc : chkZ M 0 L = true := by
      cases e : chkZ M 0 L with
      | true => rfl
      | false => rw [e] at h; simp at h
    obtain ⟨G, hG, g1, g2, _⟩ := chkZ_is L 0 hc
    exact ⟨M, G, rfl, hG, by omega, g1, g2⟩
  · rw [if_neg hN] at h; simp at h

/-- Is one of the first k blocks of an order free? -/
def someB (L : List Blk) (n k : Nat) : Bool := (List.range k).any fun i => freeB L (i * 2 ^ n) n
theorem someB_zero (L : List Blk) (n : Nat) : someB L n 0 = false := rfl
theorem someB_succ (L : List Blk) (n k : Nat) : someB L n (k + 1) = (someB L n k || freeB L (k * 2 ^ n) n) := by
  unfold someB; rw [List.range_succ, List.any_append]; simp

theorem some_no {N : Nat} {L : List Blk} (hS : St N L) {n : Nat} (hn : n ≤ N) (h : allocB N L n = none) : someB L n (2 ^ (N - n)) = false := by
  have hr := room_step hS n
  rw [h] at hr
  have hr : roomB n (blocksB N L) = 0 := hr
  rw [room_count hS hn] at hr
  have := List.length_eq_zero_iff.1 hr
  unfold freeIdx at this
  unfold someB
  rw [List.any_eq_false]
  intro i hi
  have := List.filter_eq_nil_iff.1 this i hi
  simpa using this

/-- What Alloc finds. -/
theorem alloc_found {N : Nat} {L L' : List Blk} (hS : St N L) {n p : Nat} (h : allocB N L n = some (p, L')) :
    ∃ (j k : Nat), (blocksB N L)[j]? = some (p, k) ∧ n ≤ k ∧ InB N (p, n) ∧ freeB L p n = true ∧ n ≤ N ∧ someB L n (2 ^ (N - n)) = true ∧
      (∀ (i : Nat) (y : Blk), (blocksB N L)[i]? = some y → y.1 = p → i = j) ∧
      ∀ y ∈ blocksB N L, n ≤ y.2 → ¬ (y.2 < k) ∧ (y.2 = k → p ≤ y.1) := by
  have hb := alloc_best hS n
  unfold allocB at h
  cases e : bestOf n none (blocksB N L) with
  | none => rw [e] at h; simp at h
  | some x =>
    rw [e] at h hb
    rw [Option.map_some, Option.some.injEq, Prod.mk.injEq] at h
    obtain ⟨hx, hxn, hmin⟩ := hb
    obtain ⟨p', k⟩ := x
    have hp : p' = p := h.1
    subst hp
    obtain ⟨g1, g2⟩ := ((mem_blocks hS _).1 hx).sub hxn
    have hf : freeB L p' n = true := (freeB_iff hS.inb g1.2.1).2 g2
    obtain ⟨j, hj, hje⟩ := List.mem_iff_getElem.1 hx
    have hnN : n ≤ N := g1.1
    refine ⟨j, k, by rw [List.getElem?_eq_getElem hj, hje], hxn, g1, hf, hnN, ?_, ?_, ?_⟩
    · unfold someB
      rw [List.any_eq_true]
      have hal : p' % 2 ^ n = 0 := g1.2.1
      refine ⟨p' / 2 ^ n, ?_, by rw [mul_div hal]; exact hf⟩
      rw [List.mem_range, Nat.div_lt_iff_lt_mul (pow_pos2 n), ← Nat.pow_add, Nat.sub_add_cancel hnN]
      have := g1.parts.2.1
      exact this
    · intro i y hi hy
      have hlt := asc_lt (blocks_asc hS)
      have hil := (List.getElem?_eq_some_iff.1 hi).1
      have hie := (List.getElem?_eq_some_iff.1 hi).2
      rcases Nat.lt_trichotomy i j with h1 | h1 | h1
      · have := List.pairwise_iff_getElem.1 hlt i j hil hj h1
        rw [hie, hje, hy] at this
        exact absurd this (Nat.lt_irrefl _)
      · exact h1
      · have := List.pairwise_iff_getElem.1 hlt j i hj hil h1
        rw [hie, hje, hy] at this
        exact absurd this (Nat.lt_irrefl _)
    · intro y hy hyn
      rcases hmin y hy hyn with h1 | ⟨h1, h2⟩
      · have h1 : k < y.2 := h1
        exact ⟨by omega, fun e => by omega⟩
      · have h1 : k = y.2 := h1
        have h2 : p' ≤ y.1 := h2
        exact ⟨by omega, fun _ => h2⟩
end Bu
end Go.Proofs.Ytlknhbcambdccaa
