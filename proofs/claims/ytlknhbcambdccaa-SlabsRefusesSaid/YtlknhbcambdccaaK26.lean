/- Saved states of caches in memory; Save. The arguments of the law: shapes, acts; numbers as indices. Save of a cache. Same of two saved states that are equal. -/
import Derived.Test.YtlknhbcambdccaaK25
import Derived.Test.YtlknhbcambdccaaK22
import Derived.Test.YtlknhbcambdccaaK19
import Derived.Test.YtlknhbcambdccaaK13
import Derived.Lib.SmallJoins
import Derived.Test.YtlknhbcambdccaaK24
import Derived.Deep.RegionLaw
import Derived.RegionTactic
import Derived.ChangeAlike
namespace Go.Proofs.Ytlknhbcambdccaa
open Go.RowKit Go.Shelf
namespace Sl
open Bu

/-- Bools that lie in memory, in blocks from B on. -/
def BoolAt (B : Nat) (w : World) (A : Option Addr) (c : Nat) (us : List Bool) : Prop :=
  us.length ≤ c ∧ c ≤ maxLen ∧ ∀ (i : Nat) (v : Bool), us[i]? = some v → ∃ g o, A = some ⟨g, o, none⟩ ∧ B ≤ g ∧ g < w.heap.size ∧ w.cell? ⟨g, o + i, none⟩ = some (.bool v)
/-- The slabs of a saved state. -/
def SbAt (B : Nat) (w : World) (A : Option Addr) (c : Nat) (l : List (Int × List Bool)) : Prop :=
  l.length ≤ c ∧ c ≤ maxLen ∧ ∀ (j : Nat) (x : Int × List Bool), l[j]? = some x → ∃ g o U cu, A = some ⟨g, o, none⟩ ∧ B ≤ g ∧ g < w.heap.size ∧ w.cell? ⟨g, o + j * 2, none⟩ = some (.int .i64 x.1) ∧ w.cell? ⟨g, o + j * 2 + 1, none⟩ = some (.slice U x.2.length cu) ∧ BoolAt B w U cu x.2
theorem BoolAt.keep {B : Nat} {w w' : World} {A : Option Addr} {c : Nat} {us : List Bool} (h : BoolAt B w A c us) (hs : w.heap.size ≤ w'.heap.size) (hk : ∀ z, B ≤ z → z < w.heap.size → w'.heap[z]? = w.heap[z]?) : BoolAt B w' A c us :=
  ⟨h.1, h.2.1, fun i v hv => by
    obtain ⟨g, o, h1, h2, h3, h4⟩ := h.2.2 i v hv
    exact ⟨g, o, h1, h2, by omega, (World.cell?_of_block (a := ⟨g, o + i, none⟩) (hk g h2 h3)).trans h4⟩⟩
theorem SbAt.keep {B : Nat} {w w' : World} {A : Option Addr} {c : Nat} {l : List (Int × List Bool)} (h : SbAt B w A c l) (hs : w.heap.size ≤ w'.heap.size) (hk : ∀ z, B ≤ z → z < w.heap.size → w'.heap[z]? = w.heap[z]?) : SbAt B w' A c l :=
  ⟨h.1, h.2.1, fun j x hx => by
    obtain ⟨g, o, U, cu, h1, h2, h3, h4, h5, h6⟩ := h.2.2 j x hx
    exact ⟨g, o, U, cu, h1, h2, by omega, (World.cell?_of_block (a := ⟨g, _, none⟩) (hk g h2 h3)).trans h4, (World.cell?_of_block (a := ⟨g, _, none⟩) (hk g h2 h3)).trans h5, h6.keep hs hk⟩⟩
theorem SbAt.below {B : Nat} {w w' : World} {A : Option Addr} {c : Nat} {l : List (Int × List Bool)} (h : SbAt B w A c l) (hb : Below w.heap.size w w') : SbAt B w' A c l := h.keep hb.size fun z _ hz => hb.block z hz
theorem bool_row {B : Nat} {w : World} {A : Option Addr} {c : Nat} {us : List Bool} (h : w.ownsRow B 4 1 (.slice A us.length c) us.length (bcells us)) : BoolAt B w A c us := by
  rcases h.2 with ⟨hv, h0⟩ | ⟨g, cp, cur, hv, hB, hg, h1, h2, _⟩
  · injection hv with e1 e2 e3
    refine ⟨by omega, by unfold maxLen; omega, fun j x hx => ?_⟩
    have := (List.getElem?_eq_some_iff.1 hx).1; omega
  · injection hv with e1 e2 e3
    subst e1; subst e3
    exact ⟨h1, h2, fun j x hx => ⟨g, 0, rfl, hB, lt_of_heap hg, by rw [Nat.zero_add]; exact row_at h (by rw [bcells_get, hx]; rfl)⟩⟩

/-- The slabs of a cache, as Save gives them. -/
def saveS (l : List Slb) : List (Int × List Bool) := l.map fun x => ((x.pg : Int), x.us)
theorem saveS_len (l : List Slb) : (saveS l).length = l.length := List.length_map _

theorem slblock_info : (Try.prog.info? 90).map (fun i => (i.zero.isSome, i.zero.map (fun z => z.cells.size), i.size, i.bytes)) = some (true, some 2, 2, 32) := by kernel_rfl

theorem bool_size (w : World) : (Go.sizeOf 4).run Try.prog w = .ok 1 w := by kernel_rfl

set_option maxRecDepth 100000 in
theorem clone_ok (w : World) (A : Option Addr) (c : Nat) (us : List Bool) (hp : 0 < us.length) (h : BoolAt 0 w A c us) (hl : us.length ≤ 1000000) :
    Calls Try.prog 60 #[.slice A us.length c] w fun e w' => ∃ A' c', e = .returned (.slice A' us.length c') ∧ w'.ownsRow w.heap.size 4 1 (.slice A' us.length c') us.length (bcells us) ∧ Below w.heap.size w w' := by
  obtain ⟨i0, hi, h0, h1, h2⟩ := info_parts bool_info
  obtain ⟨v, hv⟩ : ∃ v, us[0]? = some v := ⟨_, List.getElem?_eq_getElem hp⟩
  obtain ⟨b, o, rfl, _⟩ := h.2.2 0 v hv
  have hbl : (bcells us).length = us.length * 1 := by rw [bcells_len, Nat.mul_one]
  refine (AnyE.slices_Clone Try.cloneB i0 (.bool false) 1 1 hi h0 h1 h2 rfl (by decide) bool_size b o us.length c (bcells us) w hbl (by unfold maxLen; omega) (by omega) ?_ ?_).mono ?_
  · intro j u hu
    rw [bcells_get] at hu
    obtain ⟨v, hv, rfl⟩ := Option.map_eq_some_iff.1 hu
    obtain ⟨g', o', hA, _, _, hc⟩ := h.2.2 j v hv
    injection hA with hA; injection hA with e1 e2
    subst e1; subst e2
    exact hc
  · intro u hu
    obtain ⟨v, _, rfl⟩ := List.mem_map.1 hu
    rfl
  · rintro e w' ⟨v', rfl, hr, _, hb⟩
    obtain ⟨A', c', rfl⟩ := own_row hr
    exact ⟨A', c', rfl, hr, hb⟩
end Sl
end Go.Proofs.Ytlknhbcambdccaa
namespace Go.Proofs.Ytlknhbcambdccaa
open Go.RowKit
namespace Sl
open Bu

/-- Acts. -/
def ActAt (w : World) (A : Option Addr) (c : Nat) (T : List (Nat × Int)) : Prop :=
  T.length ≤ c ∧ c ≤ maxLen ∧ ∀ (j : Nat) (x : Nat × Int), T[j]? = some x → ∃ g o, A = some ⟨g, o, none⟩ ∧ g < w.heap.size ∧ w.cell? ⟨g, o + j * 2, none⟩ = some (.int .u8 (x.1 : Int)) ∧ w.cell? ⟨g, o + j * 2 + 1, none⟩ = some (.int .i64 x.2) ∧ x.1 < 256 ∧ -9223372036854775808 ≤ x.2 ∧ x.2 < 9223372036854775808
theorem act_at {w w' : World} {A : Option Addr} {c n : Nat} {T : List (Nat × Int)} (h : ActAt w A c T) (hb : Below n w w') (hn : w.heap.size ≤ n) {j : Nat} {x : Nat × Int} (hj : T[j]? = some x) :
    ∃ g o, A = some ⟨g, o, none⟩ ∧ w'.cell? ⟨g, o + j * 2, none⟩ = some (.int .u8 (x.1 : Int)) ∧ w'.cell? ⟨g, o + j * 2 + 1, none⟩ = some (.int .i64 x.2) ∧ x.1 < 256 := by
  obtain ⟨g, o, hA, hg, h1, h2, h3, _⟩ := h.2.2 j x hj
  exact ⟨g, o, hA, (hb.cell (p := ⟨g, o + j * 2, none⟩) (by show g < n; omega)).trans h1, (hb.cell (p := ⟨g, o + j * 2 + 1, none⟩) (by show g < n; omega)).trans h2, h3⟩

theorem four_at {W : World} {B T : Nat} {x0 x1 x2 x3 : Value} (h : W.heap[B]? = some (.cells #[x0, x1, x2, x3] T (0, 0))) : W.cell? ⟨B, 0, none⟩ = some x0 ∧ W.cell? ⟨B, 1, none⟩ = some x1 ∧ W.cell? ⟨B, 2, none⟩ = some x2 ∧ W.cell? ⟨B, 3, none⟩ = some x3 := by
  refine ⟨?_, ?_, ?_, ?_⟩ <;> (rw [cell_of_row _ _ _ _ _ _ h]; rfl)

/-- A number that is any one, as an index. -/
theorem pick_nums (n : Int) (l : Nat) (hl : 0 < l) (hl2 : l ≤ 1000000) : ∃ U k : Nat, IntKind.u64.wrap n = (U : Int) ∧ k < l ∧ IntKind.u64.wrap (l : Int) = (l : Int) ∧ IntKind.u64.wrap ((U : Int).tmod (l : Int)) = (k : Int) ∧ (U : Int) % (l : Int) = (k : Int) ∧ IntKind.u64.wrap (k : Int) = (k : Int) ∧ IntKind.i64.wrap (k : Int) = (k : Int) := by
  have hw : 0 ≤ IntKind.u64.wrap n := by
    have e : IntKind.u64.wrap n = n % 18446744073709551616 := by simp [IntKind.wrap, IntKind.bits, IntKind.signed]
    rw [e]; exact Int.emod_nonneg _ (by decide)
  obtain ⟨U, hU⟩ := Int.eq_ofNat_of_zero_le hw
  have hk := Nat.mod_lt U hl
  refine ⟨U, U % l, hU, hk, ?_, ?_, rfl, ?_, ?_⟩
  · exact u64_wrap l (by omega)
  · rw [← Int.ofNat_tmod]
    obtain ⟨k, hke⟩ : ∃ k, k = U % l := ⟨_, rfl⟩
    rw [← hke] at hk ⊢
    exact u64_wrap k (by omega)
  · obtain ⟨k, hke⟩ : ∃ k, k = U % l := ⟨_, rfl⟩
    rw [← hke] at hk ⊢
    exact u64_wrap k (by omega)
  · obtain ⟨k, hke⟩ : ∃ k, k = U % l := ⟨_, rfl⟩
    rw [← hke] at hk ⊢
    exact IntWalk.i64_in _ (by omega)

section
variable {H : Type} {enc : TypeId × Value → H} {W : World} {v : Value} {d : DataW H} {p : List MemPlace}
open Go.ChangeShapes Go.WideShapes Go.ChangeAt Go.RowKit Go.Deep Go.Joins

set_option maxRecDepth 100000 in
theorem wf_u8 {n : Int} (h : (Lit.int .u8 n).wf = true) : ∃ k : Nat, n = (k : Int) ∧ k < 256 := by
  simp only [Lit.wf, IntKind.min, IntKind.max, IntKind.signed, IntKind.bits, Bool.and_eq_true, decide_eq_true_eq, if_true, Bool.false_eq_true, if_false] at h
  obtain ⟨k, rfl⟩ := Int.eq_ofNat_of_zero_le (show 0 ≤ n by omega)
  exact ⟨k, rfl, by omega⟩
set_option maxRecDepth 100000 in
theorem wf_i64 {n : Int} (h : (Lit.int .i64 n).wf = true) : -9223372036854775808 ≤ n ∧ n < 9223372036854775808 := by
  simp only [Lit.wf, IntKind.min, IntKind.max, IntKind.signed, IntKind.bits, Bool.and_eq_true, decide_eq_true_eq, if_true, Bool.false_eq_true, if_false] at h
  omega
end
section
variable {H : Type} {enc : TypeId × Value → H} {W : World} {v : Value} {d : DataW H} {p : List MemPlace}
open Go.ChangeShapes Go.WideShapes Go.ChangeAt Go.RowKit Go.Deep Go.Joins
set_option maxRecDepth 100000 in
theorem open_acts {r : Reach} {b0 : Nat} (hv : Value.okWide Try.prog W r b0 55 v) (h : DataW.Trod enc Try.prog W 0 (fun _ => true) true 55 v d p) :
    ∃ (A : Option Addr) (c : Nat) (T : List (Nat × Int)), v = .slice A T.length c ∧ ActAt W A c T := by
  obtain ⟨A, len, cap, rfl⟩ := okWide_slice Try.underlying55 hv
  obtain ⟨fuel, hf⟩ := h
  rcases open_slice_fields Try.underlying55 Try.underlying57 (by kernel_rfl) (by kernel_rfl) hf with ⟨hcs, _⟩ | ⟨a, len, cap, m, D, Pl, hcs, _, hl, hm, hmm, _, hi⟩
  · simp only [Value.cells, List.cons.injEq, Value.slice.injEq, and_true] at hcs
    obtain ⟨rfl, rfl, rfl⟩ := hcs
    exact ⟨none, 0, [], rfl, Nat.le_refl _, Nat.zero_le _, fun j x hx => by simp at hx⟩
  · simp only [Value.cells, List.cons.injEq, Value.slice.injEq, and_true] at hcs
    obtain ⟨rfl, rfl, rfl⟩ := hcs
    have hlm : len ≤ m := by rw [hmm]; split <;> omega
    have hspot : 0 < len → a.spot = none := by
      intro h0
      obtain ⟨ys, n, _, _, _, hfl⟩ := hi 0 (by omega)
      obtain ⟨v0, y0, c0, _, t0⟩ := hfl 0 _ rfl
      have := World.cell?_spot c0
      rwa [Nat.zero_mul, Addr.add, if_pos rfl] at this
    have key : ∀ j : Nat, j < len → ∃ x : Nat × Int, ∃ g o, some a = some ⟨g, o, none⟩ ∧ g < W.heap.size ∧ W.cell? ⟨g, o + j * 2, none⟩ = some (.int .u8 (x.1 : Int)) ∧ W.cell? ⟨g, o + j * 2 + 1, none⟩ = some (.int .i64 x.2) ∧ x.1 < 256 ∧ -9223372036854775808 ≤ x.2 ∧ x.2 < 9223372036854775808 := by
      intro j hj
      obtain ⟨ys, n, _, _, _, hfl⟩ := hi j (by omega)
      obtain ⟨v0, y0, c0, _, t0⟩ := hfl 0 _ rfl
      obtain ⟨v1, y1, c1, _, t1⟩ := hfl 1 _ rfl
      obtain ⟨n0, e0, _, w0⟩ := DataW.trod_int Try.underlying5 t0
      obtain ⟨n1, e1, _, w1⟩ := DataW.trod_int Try.underlying2 t1
      simp only [List.cons.injEq, and_true] at e0 e1
      subst e0 e1
      obtain ⟨k, rfl, hk⟩ := wf_u8 w0
      obtain ⟨w2, w3⟩ := wf_i64 w1
      obtain ⟨g, o, spot⟩ := a
      obtain rfl : spot = none := hspot (by omega)
      rw [Bu.add_plain] at c0 c1
      have hg : g < W.heap.size := World.block_lt_of_cell? _ (a := ⟨g, _, none⟩) c0
      exact ⟨(k, n1), g, o, rfl, hg, by simpa [Nat.add_assoc] using c0, by simpa [Nat.add_assoc] using c1, hk, w2, w3⟩
    obtain ⟨l, rfl, hp⟩ := list_of _ len key
    exact ⟨some a, cap, l, rfl, hl, hm, hp⟩
end
end Sl
end Go.Proofs.Ytlknhbcambdccaa
namespace Go.Proofs.Ytlknhbcambdccaa
open Go.RowKit Go.Shelf
namespace Sl
open Bu

abbrev SbZ := (Int × List Bool) × (Option Addr × Nat)
/-- The cells of the slabs of a saved state. -/
def cellsSb (Z : List SbZ) : List Value := Z.flatMap fun z => [.int .i64 z.1.1, .slice z.2.1 z.1.2.length z.2.2]
theorem cellsSb_add (Z : List SbZ) (z : SbZ) : cellsSb (Z ++ [z]) = cellsSb Z ++ [.int .i64 z.1.1, .slice z.2.1 z.1.2.length z.2.2] := by simp [cellsSb]
theorem cellsSb_get : ∀ {Z : List SbZ} {j : Nat} {z : SbZ}, Z[j]? = some z → (cellsSb Z)[j * 2]? = some (.int .i64 z.1.1) ∧ (cellsSb Z)[j * 2 + 1]? = some (.slice z.2.1 z.1.2.length z.2.2) := by
  intro Z
  induction Z with
  | nil => intro j z h; simp at h
  | cons y Z ih =>
    intro j z h
    rw [show cellsSb (y :: Z) = .int .i64 y.1.1 :: .slice y.2.1 y.1.2.length y.2.2 :: cellsSb Z from rfl]
    cases j with
    | zero => simp at h; subst h; exact ⟨rfl, rfl⟩
    | succ j =>
      obtain ⟨h1, h2⟩ := ih (j := j) (z := z) (by simpa using h)
      rw [show (j + 1) * 2 = j * 2 + 1 + 1 by omega, show j * 2 + 1 + 1 + 1 = (j * 2 + 1) + 1 + 1 by omega]
      exact ⟨by simpa using h1, by simpa using h2⟩
theorem sb_of {w : World} {B cp : Nat} {A : Option Addr} {Z : List SbZ} (h : w.ownsRow B 90 2 (.slice A Z.length cp) Z.length (cellsSb Z)) (hz : ∀ z ∈ Z, BoolAt B w z.2.1 z.2.2 z.1.2) : SbAt B w A cp (Z.map (·.1)) := by
  have hmem : ∀ (j : Nat) (x : Int × List Bool), (Z.map (·.1))[j]? = some x → ∃ z, Z[j]? = some z ∧ z.1 = x := fun j x hx => by
    rw [List.getElem?_map] at hx
    exact Option.map_eq_some_iff.1 hx
  rcases h.2 with ⟨hv, h0⟩ | ⟨g, cp', cur, hv, hB, hg, h1, h2, _⟩
  · injection hv with e1 e2 e3
    refine ⟨by simp; omega, by unfold maxLen; omega, fun j x hx => ?_⟩
    have := (List.getElem?_eq_some_iff.1 hx).1
    simp at this; omega
  · injection hv with e1 e2 e3
    subst e1; subst e3
    refine ⟨by simpa using h1, h2, fun j x hx => ?_⟩
    obtain ⟨z, hzj, rfl⟩ := hmem j x hx
    obtain ⟨d0, d1⟩ := cellsSb_get hzj
    exact ⟨g, 0, z.2.1, z.2.2, rfl, hB, lt_of_heap hg, by rw [Nat.zero_add]; exact row_at h d0, by rw [Nat.zero_add]; exact row_at h d1, hz z (List.mem_of_getElem? hzj)⟩

theorem BoolAt.low {B B' : Nat} {w : World} {A : Option Addr} {c : Nat} {us : List Bool} (hB : B' ≤ B) (h : BoolAt B w A c us) : BoolAt B' w A c us :=
  ⟨h.1, h.2.1, fun i v hv => by
    obtain ⟨g, o, h1, h2, h3, h4⟩ := h.2.2 i v hv
    exact ⟨g, o, h1, Nat.le_trans hB h2, h3, h4⟩⟩
theorem SbAt.low {B B' : Nat} {w : World} {A : Option Addr} {c : Nat} {l : List (Int × List Bool)} (hB : B' ≤ B) (h : SbAt B w A c l) : SbAt B' w A c l :=
  ⟨h.1, h.2.1, fun j x hx => by
    obtain ⟨g, o, U, cu, h1, h2, h3, h4, h5, h6⟩ := h.2.2 j x hx
    exact ⟨g, o, U, cu, h1, Nat.le_trans hB h2, h3, h4, h5, h6.low hB⟩⟩
theorem four_set {W : World} {B T : Nat} {x0 x1 x2 x3 : Value} (h : W.heap[B]? = some (.cells #[x0, x1, x2, x3] T (0, 0))) (y0 y1 y2 y3 : Value) :
    ((((W.setCell ⟨B, 0, none⟩ y0).setCell ⟨B, 1, none⟩ y1).setCell ⟨B, 2, none⟩ y2).setCell ⟨B, 3, none⟩ y3).heap[B]? = some (.cells #[y0, y1, y2, y3] T (0, 0)) :=
  setCell_at _ _ _ _ _ _ (setCell_at _ _ _ _ _ _ (setCell_at _ _ _ _ _ _ (setCell_at _ _ _ _ _ _ h)))
/-- A saved state, as a value. -/
abbrev stv (size order keep : Int) (A : Option Addr) (n c : Nat) : Value := .agg #[.int .i64 size, .int .i64 order, .int .i64 keep, .slice A n c]

theorem save_step {w wr w5 W : World} {S k cp g6 cap6 c5 : Nat} {C : Ca} {A A5 : Option Addr} {Z : List SbZ} {x : Slb} (hS : S = w.heap.size + 1) (hkZ : k = Z.length) (hk : k < C.sl.length)
    (hZ : Z.map (·.1) = (saveS C.sl).take k) (hZb : ∀ z ∈ Z, BoolAt (w.heap.size + 1) wr z.2.1 z.2.2 z.1.2 ∧ ∀ g, z.2.1.map (·.block) = some g → g < wr.heap.size ∧ (Value.slice A k cp).ownBlock ≠ some g) (hr : wr.ownsRow (S + 1) 90 2 (.slice A k cp) k (cellsSb Z))
    (hSc : wr.heap[S]? = some (.cells #[.int .i64 (C.size : Int), .int .i64 (C.order : Int), .int .i64 (C.keep : Int), .slice A k cp] 69 (0, 0))) (hRc : wr.heap[w.heap.size]? = some (.cells #[.int .i64 0, .int .i64 0, .int .i64 0, .slice none 0 0] 69 (0, 0))) (hb : Below w.heap.size w wr) (hx : C.sl[k]? = some x)
    (h5 : w5.ownsRow wr.heap.size 4 1 (.slice A5 x.us.length c5) x.us.length (bcells x.us)) (hb5 : Below wr.heap.size wr w5)
    (h6 : W.ownsRow (S + 1) 90 2 (.slice (some ⟨g6, 0, none⟩) (k + 1) cap6) (k + 1) (cellsSb Z ++ [.int .i64 (x.pg : Int), .slice A5 x.us.length c5])) (hg : (w5.alloc (.cells #[.int .i64 (x.pg : Int), .slice A5 x.us.length c5] 90)).grownBy W (Value.slice A k cp).ownBlock) (hat : (Value.slice A k cp).ownBlock = some g6 ∨ g6 = w5.heap.size + 1) :
    (Z ++ [(((x.pg : Int), x.us), (A5, c5))]).map (·.1) = (saveS C.sl).take (Z ++ [(((x.pg : Int), x.us), (A5, c5))]).length ∧
    (∀ z ∈ Z ++ [(((x.pg : Int), x.us), (A5, c5))], BoolAt (w.heap.size + 1) (W.setCell ⟨S, 3, none⟩ (.slice (some ⟨g6, 0, none⟩) (k + 1) cap6)) z.2.1 z.2.2 z.1.2 ∧ ∀ g, z.2.1.map (·.block) = some g → g < W.heap.size ∧ (Value.slice (some ⟨g6, 0, none⟩) (k + 1) cap6).ownBlock ≠ some g) ∧
    (W.setCell ⟨S, 3, none⟩ (.slice (some ⟨g6, 0, none⟩) (k + 1) cap6)).ownsRow (S + 1) 90 2 (.slice (some ⟨g6, 0, none⟩) (Z ++ [(((x.pg : Int), x.us), (A5, c5))]).length cap6) (Z ++ [(((x.pg : Int), x.us), (A5, c5))]).length (cellsSb (Z ++ [(((x.pg : Int), x.us), (A5, c5))])) ∧
    (W.setCell ⟨S, 3, none⟩ (.slice (some ⟨g6, 0, none⟩) (k + 1) cap6)).heap[S]? = some (.cells #[.int .i64 (C.size : Int), .int .i64 (C.order : Int), .int .i64 (C.keep : Int), .slice (some ⟨g6, 0, none⟩) (Z ++ [(((x.pg : Int), x.us), (A5, c5))]).length cap6] 69 (0, 0)) ∧
    (W.setCell ⟨S, 3, none⟩ (.slice (some ⟨g6, 0, none⟩) (k + 1) cap6)).heap[w.heap.size]? = some (.cells #[.int .i64 0, .int .i64 0, .int .i64 0, .slice none 0 0] 69 (0, 0)) ∧
    Below w.heap.size w (W.setCell ⟨S, 3, none⟩ (.slice (some ⟨g6, 0, none⟩) (k + 1) cap6)) := by
  have hlen : (Z ++ [(((x.pg : Int), x.us), (A5, c5))]).length = k + 1 := by rw [List.length_append, List.length_singleton, hkZ]
  have hSl := lt_of_heap hSc
  have h5s := hb5.size
  have hal : (w5.alloc (.cells #[.int .i64 (x.pg : Int), .slice A5 x.us.length c5] 90)).heap.size = w5.heap.size + 1 := by simp
  have hgs := hg.size
  have hrow : ∀ z, (Value.slice A k cp).ownBlock = some z → S + 1 ≤ z ∧ z < wr.heap.size := fun z hz => hr.lt z hz
  have hold : ∀ z, z < wr.heap.size → some z ≠ (Value.slice A k cp).ownBlock → W.heap[z]? = wr.heap[z]? := fun z hz hn => (hg.block z (by omega) hn).trans ((alloc_old _ _ _ (by omega)).trans (hb5.block z hz))
  have hnew : ∀ z, wr.heap.size ≤ z → z < w5.heap.size → W.heap[z]? = w5.heap[z]? := fun z hz h => (hg.block z (by omega) (fun e => by have := (hrow z e.symm).2; omega)).trans (alloc_old _ _ _ h)
  have hnS : some S ≠ (Value.slice A k cp).ownBlock := fun e => by have := (hrow S e.symm).1; omega
  have hnR : some w.heap.size ≠ (Value.slice A k cp).ownBlock := fun e => by have := (hrow _ e.symm).1; omega
  have hwS : W.heap[S]? = _ := (hold S hSl hnS).trans hSc
  have htake : (saveS C.sl).take (k + 1) = (saveS C.sl).take k ++ [((x.pg : Int), x.us)] := by
    have hg1 : (saveS C.sl)[k]? = some ((x.pg : Int), x.us) := by unfold saveS; rw [List.getElem?_map, hx]; rfl
    obtain ⟨q1, q2⟩ := List.getElem?_eq_some_iff.1 hg1
    rw [List.take_succ_eq_append_getElem q1, q2]
  have hB6 : Below w.heap.size w (W.setCell ⟨S, 3, none⟩ (.slice (some ⟨g6, 0, none⟩) (k + 1) cap6)) := by
    refine ((((hb.trans (hb5.mono hb.size)).alloc (by have := hb.size; omega) _).grown hg (by have := hb.size; omega) fun z hz => by have := (hrow z hz).1; omega).setCell (p := ⟨S, 3, none⟩) (by show w.heap.size ≤ S; omega) _)
  refine ⟨?_, fun z hz => ?_, ?_, ?_, ?_, hB6⟩
  · rw [hlen, htake, List.map_append, hZ]; rfl
  · have hkS : ∀ V : World, ∀ z, z ≠ S → (V.setCell ⟨S, 3, none⟩ (.slice (some ⟨g6, 0, none⟩) (k + 1) cap6)).heap[z]? = V.heap[z]? := fun V z hz => setCell_far _ _ _ _ hz
    rcases List.mem_append.1 hz with h | h
    · obtain ⟨hbz, hgz⟩ := hZb z h
      refine ⟨?_, fun g hg' => ?_⟩
      · obtain ⟨b1, b2, b3⟩ := hbz
        refine ⟨b1, b2, fun i v hv => ?_⟩
        obtain ⟨g, o, e1, e2, e3, e4⟩ := b3 i v hv
        obtain ⟨f1, f2⟩ := hgz g (by rw [e1]; rfl)
        refine ⟨g, o, e1, e2, by rw [setCell_size]; omega, ?_⟩
        have hcS : g ≠ S := fun e => by
          subst e
          have := World.cell?_of_block (w := wr) (w' := wr) (a := ⟨g, o + i, none⟩) rfl
          rw [cell_of_row _ _ _ _ _ _ hSc] at e4
          have hlt : ∀ n : Nat, (#[Value.int .i64 (C.size : Int), .int .i64 (C.order : Int), .int .i64 (C.keep : Int), .slice A k cp] : Array Value)[n]? ≠ some (.bool v) := fun n => by
            match n with
            | 0 => simp
            | 1 => simp
            | 2 => simp
            | 3 => simp
            | n + 4 => simp
          exact hlt _ e4
        exact (World.cell?_of_block (a := ⟨g, o + i, none⟩) ((hkS W g hcS).trans (hold g f1 (fun e => f2 e.symm)))).trans e4
      · obtain ⟨f1, f2⟩ := hgz g hg'
        refine ⟨by omega, fun e => ?_⟩
        have e : g6 = g := by injection e
        rcases hat with h7 | h7
        · exact f2 (by rw [h7, e])
        · omega
    · have hz : z = (((x.pg : Int), x.us), (A5, c5)) := by simpa using h
      subst hz
      have hq := bool_row (B := w.heap.size + 1) (row_low (B := wr.heap.size) (row_keep (w' := W.setCell ⟨S, 3, none⟩ (.slice (some ⟨g6, 0, none⟩) (k + 1) cap6)) h5 fun z h1 h2 => (hkS W z (by omega)).trans (hnew z h1 h2)) (by have := lt_of_heap hRc; omega))
      refine ⟨hq, fun g hg' => ?_⟩
      have hg5 := h5.lt g (by
        have hg' : A5.map (·.block) = some g := hg'
        cases A5 with
        | none => cases hg'
        | some ad => exact hg')
      refine ⟨by omega, fun e => ?_⟩
      have e : g6 = g := by injection e
      rcases hat with h7 | h7
      · have := (hrow g6 h7).2; omega
      · omega
  · show World.ownsRow _ _ _ _ _ _ _
    rw [hlen, cellsSb_add]
    exact row_keep h6 fun z h1 h2 => setCell_far _ _ _ _ (by show z ≠ S; omega)
  · rw [hlen]
    exact setCell_at W S 3 _ _ _ hwS
  · rw [setCell_far _ _ _ _ (by show w.heap.size ≠ S; omega)]
    exact (hold w.heap.size (lt_of_heap hRc) hnR).trans hRc

theorem sb_all {w wr : World} {S cp : Nat} {A : Option Addr} {Z : List SbZ} (hr : wr.ownsRow (S + 1) 90 2 (.slice A Z.length cp) Z.length (cellsSb Z)) (hZb : ∀ z ∈ Z, BoolAt (w.heap.size + 1) wr z.2.1 z.2.2 z.1.2) (hS : S = w.heap.size + 1) (V : World) (hs : wr.heap.size ≤ V.heap.size)
    (hk : ∀ z, w.heap.size + 1 ≤ z → z < wr.heap.size → V.heap[z]? = wr.heap[z]?) : SbAt (w.heap.size + 1) V A cp (Z.map (·.1)) := by
  have h1 : wr.ownsRow (w.heap.size + 1) 90 2 (.slice A Z.length cp) Z.length (cellsSb Z) := row_low hr (by omega)
  exact (sb_of h1 hZb).keep hs hk

set_option maxRecDepth 100000 in
set_option maxHeartbeats 8000000 in
theorem saveS_ok (w : World) (own : Own?) (c b : Nat) (C : Ca) (N : Nat) (L : List Blk) (H : Held w own c b C N L) :
    Calls Try.prog 27 #[.pointer (some ⟨c, 0, none⟩)] w fun e w' => (∃ A cp, e = .returned (stv (C.size : Int) (C.order : Int) (C.keep : Int) A C.sl.length cp) ∧ SbAt w.heap.size w' A cp (saveS C.sl)) ∧ Below w.heap.size w w' := by
  obtain ⟨A0, cap, R, hC⟩ := H.at_
  have hfr := H.fresh
  have hcl := hfr c (by rw [hC.ownC]; simp)
  obtain ⟨W1, hW1⟩ : ∃ W1, W1 = w.alloc (.cells #[.int .i64 0, .int .i64 0, .int .i64 0, .slice none 0 0] 69) := ⟨_, rfl⟩
  have hb1 : Below w.heap.size w W1 := by rw [hW1]; exact below_box w _
  have hs1 : W1.heap.size = w.heap.size + 1 := by rw [hW1]; simp
  obtain ⟨c0, c1, c2, c3, c4, _⟩ := six_cells ((hb1.block c hcl).trans hC.cell)
  have hsl := ok_len H.ok
  obtain ⟨n, hn⟩ : ∃ n, n = C.sl.length := ⟨_, rfl⟩
  have hRn : R.length = n := hC.len.trans hn.symm
  rw [hRn] at c4
  rw [← hn] at hsl
  have hcp : n ≤ cap := by
    rcases hC.row.2 with ⟨hv, h0⟩ | ⟨g, cp, cur, hv, _, _, g1, g2, _⟩
    · omega
    · injection hv with _ _ h3; omega
  have HD := Lib.hid (dead_ok W1 c (some ⟨b, 0, none⟩) c0)
  have HX := Lib.hid (And.intro hC (And.intro H.ok (And.intro hfr (And.intro hn (And.intro hRn (And.intro hb1 hs1))))))
  have HW := Lib.hid hW1
  have hcw : c < W1.heap.size := by omega
  clear hC H hn hRn c0 hfr hb1 hs1 hW1
  go_enter Try.func27, Try.ntmps27
  go_wp2_with (go_at_call 34; fail)
  rw [← HW.out]
  refine HD.out.mono ?_
  rintro _ w' ⟨rfl, rfl⟩
  go_wp2_with (fail)
  go_region
  go_wp2_with (fail)
  obtain ⟨S, hS⟩ : ∃ S, S = W1.heap.size := ⟨_, rfl⟩
  obtain ⟨W2, hW2⟩ : ∃ W2, W2 = (W1.alloc (.cells #[.int .i64 (C.size : Int), .int .i64 (C.order : Int), .int .i64 (C.keep : Int), .slice none 0 0] 69)).drew := ⟨_, rfl⟩
  have hb2 : Below w.heap.size w W2 := by
    rw [hW2]
    have h1 := HX.out.2.2.2.2.2.1
    exact (h1.alloc (by have := HX.out.2.2.2.2.2.2; omega) _).drew
  have hS2 : W2.heap[S]? = some (.cells #[.int .i64 (C.size : Int), .int .i64 (C.order : Int), .int .i64 (C.keep : Int), .slice none 0 0] 69 (0, 0)) := by
    rw [hW2, hS]
    show (W1.alloc _).heap[W1.heap.size]? = _
    rw [heapAlloc, if_pos rfl]
  have hR2 : W2.heap[w.heap.size]? = some (.cells #[.int .i64 0, .int .i64 0, .int .i64 0, .slice none 0 0] 69 (0, 0)) := by
    rw [hW2]
    show (W1.alloc _).heap[w.heap.size]? = _
    have := HX.out.2.2.2.2.2.2
    rw [alloc_old _ _ _ (by omega), HW.out, heapAlloc, if_pos rfl]
  have hSw : S = w.heap.size + 1 := hS.trans HX.out.2.2.2.2.2.2
  have H2 := Lib.hid (And.intro hb2 (And.intro hS2 hR2))
  have HSw := Lib.hid hSw
  clear hSw
  rw [← hW2, ← hS]
  clear hW2 hb2 hS2 hR2 hS hcw c1 c2 c3 c4
  obtain ⟨i0, z0, hi0, hz0, hz1, hz2, hz3⟩ := info_open slblock_info
  go_loopw [27] (fun i wr => ∃ (A : Option Addr) (cp : Nat) (Z : List SbZ), Z.length ≤ n ∧ i = .int .i64 (Z.length : Int) ∧ Z.map (·.1) = (saveS C.sl).take Z.length ∧ (∀ z ∈ Z, BoolAt (w.heap.size + 1) wr z.2.1 z.2.2 z.1.2 ∧ ∀ g, z.2.1.map (·.block) = some g → g < wr.heap.size ∧ (Value.slice A Z.length cp).ownBlock ≠ some g) ∧ wr.ownsRow (S + 1) 90 2 (.slice A Z.length cp) Z.length (cellsSb Z) ∧
      wr.heap[S]? = some (.cells #[.int .i64 (C.size : Int), .int .i64 (C.order : Int), .int .i64 (C.keep : Int), .slice A Z.length cp] 69 (0, 0)) ∧ wr.heap[w.heap.size]? = some (.cells #[.int .i64 0, .int .i64 0, .int .i64 0, .slice none 0 0] 69 (0, 0)) ∧ Below w.heap.size w wr) (fun i _ => n - (intOf i).toNat)
  case atStart => exact ⟨none, 0, [], Nat.zero_le _, rfl, by simp, (fun z hz => by cases hz), World.ownsRow_nil _ _ _ _, H2.out.2.1, H2.out.2.2, H2.out.1⟩
  case round =>
    clear H2
    obtain ⟨A, cp, Z, hk, rfl, hZ, hZb, hr, hSc, hRc, hb⟩ := hrel
    obtain ⟨k, hkZ⟩ : ∃ k, k = Z.length := ⟨_, rfl⟩
    rw [← hkZ] at hk hr hSc hZ hZb ⊢
    have e0 : (0 : Int) ≤ (k : Int) := by omega
    by_cases hlt : k < n
    · have e1 : (k : Int) < (n : Int) := by omega
      have hC := HX.out.1
      have hkk : IntKind.i64.wrap ((k : Int) + 1) = ((k + 1 : Nat) : Int) := by rw [IntWalk.i64_in _ (by omega)]; rfl
      obtain ⟨x, hx⟩ : ∃ x, C.sl[k]? = some x := ⟨_, List.getElem?_eq_getElem (by have := HX.out.2.2.2.1; omega)⟩
      obtain ⟨p, hp⟩ : ∃ p, R[k]? = some p := ⟨_, List.getElem?_eq_getElem (by have := HX.out.2.2.2.2.1; omega)⟩
      obtain ⟨u, uc, hs⟩ := hC.slab k p x hp hx
      obtain ⟨g, rfl⟩ : ∃ g, A0 = some ⟨g, 0, none⟩ := by
        rcases hC.row.2 with ⟨_, h0⟩ | ⟨g, cp, cur, hv, _⟩
        · have := (List.getElem?_eq_some_iff.1 hp).1; omega
        · injection hv with hv; exact ⟨g, hv⟩
      have hfrs := HX.out.2.2.1
      have r0 : wr.cell? ⟨g, k, none⟩ = some (.pointer (some ⟨p, 0, none⟩)) := (World.cell?_of_block (a := ⟨g, k, none⟩) (hb.block g (hfrs g (by rw [hC.ownG g rfl]; simp)))).trans (row_cell hC.row (i := k) (v := .pointer (some ⟨p, 0, none⟩)) (by unfold ptrs; rw [List.getElem?_map, hp]; rfl))
      have hpl := hfrs p (by rw [hs.ownP]; simp)
      have hul := hfrs u (by rw [hs.ownU]; simp)
      have hpc := (hb.block p hpl).trans hs.cell
      obtain ⟨p0, p1, _, _⟩ := three_cells hpc
      have hcap1 := capa_pos HX.out.2.1
      have hxl := HX.out.2.1.len x (List.mem_of_getElem? hx)
      obtain ⟨q, hq⟩ : ∃ q, q = x.us.length := ⟨_, rfl⟩
      have hbo : BoolAt 0 (World.drew wr) (some ⟨u, 0, none⟩) uc x.us := bool_row (row_same hs.row fun z hz => by
        injection hz with hz
        have hz : u = z := hz
        rw [← hz]; exact hb.block u hul)
      have hcl := clone_ok (World.drew wr) (some ⟨u, 0, none⟩) uc x.us (by omega) hbo (by omega)
      rw [← hq] at p1 hcl
      obtain ⟨_, _, _, s3⟩ := four_at hSc
      have sf3 : wr.frozen? ⟨S, 3, none⟩ = false := by simp [World.frozen?, hSc]
      have hSl := lt_of_heap hSc
      have HCl := Lib.hid hcl
      have HJ := Lib.hid (And.intro hZ (And.intro hZb (And.intro hr (And.intro hSc (And.intro hRc (And.intro hb (And.intro hx (And.intro hq hkZ))))))))
      have hplr : p < wr.heap.size := lt_of_heap hpc
      clear hZ hZb hr hSc hRc hb hx hp hs hC hpc hbo hcl hq hkZ hxl hcap1 hfrs
      go_wp2_with (fail)
      have hne : some S ≠ (Value.slice A k cp).ownBlock := fun e => by have := (HJ.out.2.2.1.lt S e.symm).1; omega
      have HNE := Lib.hid hne
      clear hne
      go_region_law (first
        | (go_simp; go_at_call 60; refine HCl.out.mono ?_; rintro _ w5 ⟨A5, c5, rfl, hr5, hb5⟩; have s3' := cell_keep2 (w1 := World.drew wr) hb5 s3; have sf3' : w5.frozen? ⟨S, 3, none⟩ = false := (hb5.frozen (p := ⟨S, 3, none⟩) hSl).trans sf3; have p0' := cell_keep2 (w1 := World.drew wr) hb5 p0; have hlt5 : wr.heap.size ≤ w5.heap.size := hb5.size; have hS5 : S < w5.heap.size := Nat.lt_of_lt_of_le hSl hb5.size; have r3 : (w5.alloc (.cells #[.int .i64 (x.pg : Int), .slice A5 q c5] 90)).cell? ⟨S, 3, none⟩ = some (.slice A k cp) := (World.cell?_alloc_lt w5 _ _ hS5).trans s3'; have rf3 : (w5.alloc (.cells #[.int .i64 (x.pg : Int), .slice A5 q c5] 90)).frozen? ⟨S, 3, none⟩ = false := (World.frozen?_alloc_old w5 _ _ (Nat.ne_of_lt hS5)).trans sf3'; have H5 := Lib.hid (And.intro hr5 hb5); clear hr5 hb5)
        | (refine step_append_lies _ (by rfl) (.tmp 32) (.tmp 43) _ (by rfl) (S + 1) 90 i0 z0 2 32 Try.underlying67 hi0 hz0 hz1 hz2 hz3 (by omega) (.slice A k cp) k (cellsSb Z) (by rfl) ((row_keep (w' := w5) HJ.out.2.2.1 (fun z _ hz => H5.out.2.block z hz)).alloc _) ⟨w5.heap.size, 0, none⟩ 1 1 [.int .i64 (x.pg : Int), .slice A5 q c5] (by rfl) (by rfl) (two_new _ _ _ _) (by simp [Value.oneCell']) (by omega) (by unfold maxLen; omega) (by omega) (by rw [World.size_alloc]; omega) (w5.heap.size + 1) (by simp) ?_; intro g6 cap6 w6 hown6 hgrow6 hat6 hlt6; have v0 : w6.cell? ⟨S, 3, none⟩ = some (.slice A k cp) := (hgrow6.cell_far ⟨_, _, none⟩ (by rw [World.size_alloc]; show S < _; omega) HNE.out).trans ((World.cell?_alloc_lt w5 _ _ (by show S < w5.heap.size; omega)).trans s3'); have v1 : w6.frozen? ⟨S, 3, none⟩ = false := (hgrow6.frozen_far ⟨_, _, none⟩ (by rw [World.size_alloc]; show S < _; omega) HNE.out).trans ((World.frozen?_alloc_old w5 _ _ (by show S ≠ w5.heap.size; omega)).trans sf3'); have H6 := Lib.hid (And.intro hown6 (And.intro hgrow6 hat6)); clear hown6 hgrow6 hat6 hlt6))
      all_goals
        go_wp2_with (fail)
        go_roundw
        case rel =>
          obtain ⟨j1, j2, j3, j4, j5, j6, j7, j8, j9⟩ := HJ.out
          have hst := save_step (W := w6) (Z := Z) (x := x) (A5 := A5) (c5 := c5) (g6 := g6) (cap6 := cap6) HSw.out j9 (HX.out.2.2.2.1 ▸ hlt) j1 j2 j3 j4 j5 j6 j7 (j8 ▸ H5.out.1) ⟨H5.out.2.os, H5.out.2.tape, H5.out.2.output, H5.out.2.size, H5.out.2.block⟩ (j8 ▸ H6.out.1) (j8 ▸ H6.out.2.1) H6.out.2.2
          obtain ⟨m1, m2, m3, m4, m5, m6⟩ := hst
          refine ⟨some ⟨g6, 0, none⟩, cap6, Z ++ [(((x.pg : Int), x.us), (A5, c5))], by rw [List.length_append, List.length_singleton]; omega, by rw [List.length_append, List.length_singleton, ← j9]; go_num, m1, ?_, ?_, ?_, ?_, ?_⟩
          · exact fun z hz => ⟨(m2 z hz).1.keep (Nat.le_refl _) (fun _ _ _ => rfl), fun g hg => by have h8 := (m2 z hz).2 g hg; rw [List.length_append, List.length_singleton, ← j9]; exact ⟨Nat.lt_of_lt_of_eq h8.1 (by first | exact (setCell_size _ _ _).symm | rfl), h8.2⟩⟩
          · exact row_keep m3 (fun _ _ _ => rfl)
          · exact m4
          · exact m5
          · exact ⟨m6.os, m6.tape, m6.output, m6.size, m6.block⟩
        case measure => simp [intOf]; omega
    · obtain rfl : k = n := by omega
      have e1 : ¬ ((k : Nat) : Int) < (k : Int) := by omega
      have hall : Z.map (·.1) = saveS C.sl := by
        rw [hZ, HX.out.2.2.2.1, ← saveS_len C.sl, List.take_length]
      rw [hkZ] at hr
      have hsb := fun (V : World) (hs : wr.heap.size ≤ V.heap.size) (hk : ∀ z, w.heap.size + 1 ≤ z → z < wr.heap.size → V.heap[z]? = wr.heap[z]?) => sb_all hr (fun z hz => (hZb z hz).1) HSw.out V hs hk
      rw [hall] at hsb
      obtain ⟨s0, s1, s2, s3⟩ := four_at hSc
      obtain ⟨q0, q1, q2, q3⟩ := four_at hRc
      have qf : ∀ o, wr.frozen? ⟨w.heap.size, o, none⟩ = false := fun o => by simp [World.frozen?, hRc]
      have qf0 := qf 0
      have qf1 := qf 1
      have qf2 := qf 2
      have qf3 := qf 3
      have hkc : k = C.sl.length := HX.out.2.2.2.1
      have HJ := Lib.hid (And.intro hsb (And.intro hb (And.intro hkZ hRc)))
      clear hZ hZb hr hSc hRc hb hsb hall hkZ qf
      have HKc := Lib.hid hkc
      clear hkc
      go_wp2_with (fail)
      obtain ⟨hsb, hb, hkZ, hRc⟩ := HJ.out
      have hfin := four_set hRc (.int .i64 (C.size : Int)) (.int .i64 (C.order : Int)) (.int .i64 (C.keep : Int)) (.slice A k cp)
      obtain ⟨q4, q5, q6, q7⟩ := four_at hfin
      refine bodyPost_ret (v := stv (C.size : Int) (C.order : Int) (C.keep : Int) A k cp) (by simp [results, Try.results27, go_sem, q4, q5, q6, q7]) rfl ⟨⟨A, cp, by rw [HKc.out], SbAt.low (B := w.heap.size + 1) (Nat.le_succ _) (hsb _ (by rw [setCell_size, setCell_size, setCell_size, setCell_size]; exact Nat.le_refl _) fun z h1 h2 => ?_)⟩, ?_⟩
      · exact (setCell_far _ _ _ _ (by show z ≠ w.heap.size; omega)).trans ((setCell_far _ _ _ _ (by show z ≠ w.heap.size; omega)).trans ((setCell_far _ _ _ _ (by show z ≠ w.heap.size; omega)).trans (setCell_far _ _ _ _ (by show z ≠ w.heap.size; omega))))
      · exact ((((hb.setCell (p := ⟨w.heap.size, 0, none⟩) (Nat.le_refl _) _).setCell (p := ⟨w.heap.size, 1, none⟩) (Nat.le_refl _) _).setCell (p := ⟨w.heap.size, 2, none⟩) (Nat.le_refl _) _).setCell (p := ⟨w.heap.size, 3, none⟩) (Nat.le_refl _) _)
end Sl
end Go.Proofs.Ytlknhbcambdccaa
namespace Go.Proofs.Ytlknhbcambdccaa
open Go.RowKit
namespace Sl
open Bu

theorem two_first (w : World) (x y : Array Value × TypeId) (_ : Unit) : ((w.alloc (.cells x.1 x.2)).alloc (.cells y.1 y.2)).drew.heap[w.heap.size]? = some (.cells x.1 x.2 (0, 0)) := by
  show ((w.alloc _).alloc _).heap[w.heap.size]? = _
  rw [alloc_old _ _ _ (by simp), heapAlloc, if_pos rfl]
theorem two_second (w : World) (x y : Array Value × TypeId) (_ : Unit) : ((w.alloc (.cells x.1 x.2)).alloc (.cells y.1 y.2)).drew.heap[w.heap.size + 1]? = some (.cells y.1 y.2 (0, 0)) := by
  show ((w.alloc _).alloc _).heap[w.heap.size + 1]? = _
  rw [heapAlloc, if_pos (by simp)]
theorem two_below (w : World) (o1 o2 : Obj) (_ : Unit) : Below w.heap.size w ((w.alloc o1).alloc o2).drew := ((below_box w o1).alloc (by simp) o2).drew

set_option maxRecDepth 100000 in
set_option maxHeartbeats 8000000 in
theorem sameS_ok (w : World) (s o kp : Int) (A A' : Option Addr) (c c' : Nat) (l : List (Int × List Bool)) (h1 : SbAt 0 w A c l) (h2 : SbAt 0 w A' c' l) :
    Calls Try.prog 28 #[stv s o kp A l.length c, stv s o kp A' l.length c'] w fun e w' => e = .returned (.bool true) ∧ Below w.heap.size w w' := by
  obtain ⟨W1, hW1⟩ : ∃ W1, W1 = (w.alloc (.cells #[.int .i64 s, .int .i64 o, .int .i64 kp, .slice A l.length c] 69)).alloc (.cells #[.int .i64 s, .int .i64 o, .int .i64 kp, .slice A' l.length c'] 69) := ⟨_, rfl⟩
  have hb1 : Below w.heap.size w W1 := by rw [hW1]; exact (below_box w _).alloc (by simp) _
  have hs1 : W1.heap.size = w.heap.size + 2 := by rw [hW1]; simp
  have hA1 : W1.heap[w.heap.size]? = some (.cells #[.int .i64 s, .int .i64 o, .int .i64 kp, .slice A l.length c] 69 (0, 0)) := by
    rw [hW1, alloc_old _ _ _ (by simp), heapAlloc, if_pos rfl]
  have hB1 : W1.heap[w.heap.size + 1]? = some (.cells #[.int .i64 s, .int .i64 o, .int .i64 kp, .slice A' l.length c'] 69 (0, 0)) := by
    rw [hW1, heapAlloc, if_pos (by simp)]
  obtain ⟨B, hB⟩ : ∃ B, B = w.heap.size + 1 := ⟨_, rfl⟩
  rw [← hB] at hB1
  obtain ⟨a0, a1, a2, a3⟩ := four_at hA1
  obtain ⟨b0, b1, b2, b3⟩ := four_at hB1
  have hl1 := h1.1
  have hl2 := h2.1
  have hc1 := h1.2.1
  have hc2 := h2.2.1
  unfold maxLen at hc1 hc2
  obtain ⟨n, hn⟩ : ∃ n, n = l.length := ⟨_, rfl⟩
  have HX := Lib.hid (And.intro hb1 (And.intro hs1 (And.intro hA1 (And.intro hB1 (And.intro (h1.below hb1) (And.intro (h2.below hb1) (And.intro hB hn)))))))
  rw [← hn] at hW1
  have HW := Lib.hid hW1
  rw [← hn] at hl1 hl2 a3 b3 ⊢
  have HB := Lib.hid hB
  clear h1 h2 hb1 hs1 hA1 hB1 hW1 hB hn
  go_enter Try.func28, Try.ntmps28
  go_wp2_with (fail)
  rw [← HW.out, ← HB.out]
  go_loopw [5] (fun i wr => ∃ k : Nat, k ≤ n ∧ i = .int .i64 (k : Int) ∧ Below W1.heap.size W1 wr) (fun i _ => n - (intOf i).toNat)
  case atStart => exact ⟨0, Nat.zero_le _, rfl, Below.refl _ _⟩
  case round =>
    obtain ⟨k, hk, rfl, hb⟩ := hrel
    have e0 : (0 : Int) ≤ (k : Int) := by omega
    have hBs : B < W1.heap.size := by have := HX.out.2.1; have := HB.out; omega
    have hAs : w.heap.size < W1.heap.size := by have := HX.out.2.1; omega
    replace a3 := (hb.cell (p := ⟨w.heap.size, 3, none⟩) hAs).trans a3
    replace b3 := (hb.cell (p := ⟨B, 3, none⟩) hBs).trans b3
    by_cases hlt : k < n
    · have e1 : (k : Int) < (n : Int) := by omega
      have hkk : IntKind.i64.wrap ((k : Int) + 1) = ((k + 1 : Nat) : Int) := by rw [IntWalk.i64_in _ (by omega)]; rfl
      obtain ⟨⟨pg, us⟩, hx⟩ : ∃ x, l[k]? = some x := ⟨_, List.getElem?_eq_getElem (by have := HX.out.2.2.2.2.2.2.2; omega)⟩
      obtain ⟨g1, o1, U1, cu1, rfl, _, hg1, d0, d1, hU1⟩ := (HX.out.2.2.2.2.1).2.2 k _ hx
      obtain ⟨g2, o2, U2, cu2, rfl, _, hg2, f0, f1, hU2⟩ := (HX.out.2.2.2.2.2.1).2.2 k _ hx
      dsimp only at d0 d1 f0 f1 hU1 hU2
      replace d0 := (hb.cell (p := ⟨g1, o1 + k * 2, none⟩) hg1).trans d0
      replace d1 := (hb.cell (p := ⟨g1, o1 + k * 2 + 1, none⟩) hg1).trans d1
      replace f0 := (hb.cell (p := ⟨g2, o2 + k * 2, none⟩) hg2).trans f0
      replace f1 := (hb.cell (p := ⟨g2, o2 + k * 2 + 1, none⟩) hg2).trans f1
      have hm1 := hU1.1
      have hm2 := hU2.1
      have hx1 := hU1.2.1
      have hx2 := Nat.le_trans hU2.1 hU2.2.1
      unfold maxLen at hx1 hx2
      obtain ⟨q, hq⟩ : ∃ q, q = us.length := ⟨_, rfl⟩
      rw [← hq] at d1 f1 hm1 hm2 hx2
      have hbs := hb.size
      have z1 : g1 < wr.heap.size := by omega
      have z2 : g2 < wr.heap.size := by omega
      have z3 : B < wr.heap.size := by omega
      have z4 : w.heap.size < wr.heap.size := by omega
      have y1 : g1 < wr.heap.size + 1 := by omega
      have y2 : g2 < wr.heap.size + 1 := by omega
      have y3 : B < wr.heap.size + 1 := by omega
      have y4 : w.heap.size < wr.heap.size + 1 := by omega
      have HJ := Lib.hid (And.intro hb (And.intro hU1 (And.intro hU2 hq)))
      clear hb hx hU1 hU2 hq
      go_upto_region 6 with (fail)
      go_cut [6, 7] from 43 to 54 (fun u v wx => ∃ b6 b7, u = .pointer (some ⟨b6, 0, none⟩) ∧ v = .pointer (some ⟨b7, 0, none⟩) ∧ wx.heap[b6]? = some (.cells #[.int .i64 pg, .slice U1 q cu1] 90 (0, 0)) ∧ wx.heap[b7]? = some (.cells #[.int .i64 pg, .slice U2 q cu2] 90 (0, 0)) ∧ Below wr.heap.size wr wx)
      case first =>
        go_region
        all_goals
          go_wp2_with (fail)
          go_meet
          refine ⟨_, _, rfl, rfl, ?_, ?_, ?_⟩
          all_goals first | exact two_first wr (_, _) (_, _) () | exact two_second wr (_, _) (_, _) () | exact two_below _ _ _ ()
      case rest =>
        obtain ⟨b6, b7, rfl, rfl, hc6, hc7, hbc⟩ := hcut
        obtain ⟨x0, x1, -, -⟩ := Bu.two_cells hc6
        obtain ⟨y0, y1, -, -⟩ := Bu.two_cells hc7
        have HC := Lib.hid (And.intro hc6 (And.intro hc7 hbc))
        clear hc6 hc7 hbc
        go_wp2_with (fail)
        go_loopw [8] (fun i wx => ∃ t : Nat, t ≤ q ∧ i = .int .i64 (t : Int) ∧ ∃ d, wx = wc.drewN d) (fun i _ => q - (intOf i).toNat)
        case atStart => exact ⟨0, Nat.zero_le _, rfl, 0, rfl⟩
        case round =>
          obtain ⟨t, ht, rfl, d, hwx⟩ := hrel
          have e2 : (0 : Int) ≤ (t : Int) := by omega
          replace x1 : wr.cell? ⟨b6, 1, none⟩ = some (.slice U1 q cu1) := by rw [hwx]; exact x1
          replace y1 : wr.cell? ⟨b7, 1, none⟩ = some (.slice U2 q cu2) := by rw [hwx]; exact y1
          by_cases hlt2 : t < q
          · have e3 : (t : Int) < (q : Int) := by omega
            have htt : IntKind.i64.wrap ((t : Int) + 1) = ((t + 1 : Nat) : Int) := by rw [IntWalk.i64_in _ (by omega)]; rfl
            obtain ⟨v, hv⟩ : ∃ v, us[t]? = some v := ⟨_, List.getElem?_eq_getElem (by have := HJ.out.2.2.2; omega)⟩
            obtain ⟨gu, ou, rfl, _, hgu, p0⟩ := HJ.out.2.1.2.2 t v hv
            obtain ⟨gv, ov, rfl, _, hgv, p1⟩ := HJ.out.2.2.1.2.2 t v hv
            have hb12 : Below W1.heap.size W1 wc := HJ.out.1.trans (HC.out.2.2.mono HJ.out.1.size)
            replace p0 : wr.cell? ⟨gu, ou + t, none⟩ = some (.bool v) := by rw [hwx]; exact (hb12.cell (p := ⟨gu, ou + t, none⟩) hgu).trans p0
            replace p1 : wr.cell? ⟨gv, ov + t, none⟩ = some (.bool v) := by rw [hwx]; exact (hb12.cell (p := ⟨gv, ov + t, none⟩) hgv).trans p1
            have HR := Lib.hid hwx
            have hvv : (v != v) = false := by cases v <;> rfl
            clear hwx hv hb12
            go_wp2_with (fail)
            go_quiet (fail)
            go_wp2
            go_roundw
            case rel => exact ⟨t + 1, by omega, by go_num, _, by rw [HR.out]; exact World.drewN_drewN ..⟩
            case measure => simp [intOf]; omega
          · obtain rfl : t = q := by omega
            have e3 : ¬ ((t : Nat) : Int) < (t : Int) := by omega
            have HR := Lib.hid hwx
            clear hwx
            go_wp2
            go_roundw
            case rel => exact ⟨k + 1, by omega, by go_num, by rw [HR.out]; exact below_drewN (HJ.out.1.trans (HC.out.2.2.mono HJ.out.1.size)) _⟩
            case measure => simp [intOf]; omega
    · obtain rfl : k = n := by omega
      have e1 : ¬ ((k : Nat) : Int) < (k : Int) := by omega
      have HJ := Lib.hid hb
      clear hb
      go_wp2
      go_ret
      exact ⟨rfl, below_step HX.out.1 HJ.out (Nat.le_refl _)⟩
end Sl
end Go.Proofs.Ytlknhbcambdccaa
