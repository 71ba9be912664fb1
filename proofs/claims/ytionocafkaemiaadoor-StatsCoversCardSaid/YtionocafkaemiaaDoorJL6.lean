/- A world in which the listed variables hold what their initialisers lay. The arguments. (open_slice_fields is after the guide's own worked blocks.) The arguments: a cover. -/
import Derived.Test.YtionocafkaemiaaDoorRows
import Derived.LaidLaws
import Derived.Stop.LaidErr
import Derived.Lib.LaidTab
import Derived.Lib.LaidIn
import Derived.Lib.ItoaNum
import Derived.ChangeVars
import Derived.JoinedOf
import Derived.RowKit
import Derived.Test.YtionocafkaemiaaDoorJL2
import Derived.WalkKit
import Derived.ProofKit
import Derived.OpenShut
import Derived.ChangeOld
import Derived.Below
import Derived.Deep.Slices
import Derived.Deep.Fields
import Derived.ChangeSame
import Derived.Lib.SmallJoins
import Derived.WideKeyPair
import Derived.Test.YtionocafkaemiaaDoorJL8
namespace Go.Proofs.YtionocafkaemiaaDoor
open Go.ChangeShapes Go.WideShapes Go.RowKit
namespace Sx
def db32 : List Int := [0, 1, 28, 2, 29, 14, 24, 3, 30, 22, 20, 15, 25, 17, 4, 8, 31, 27, 13, 23, 21, 19, 16, 7, 26, 12, 18, 6, 11, 5, 10, 9]
def db64 : List Int := [0, 1, 56, 2, 57, 49, 28, 3, 61, 58, 42, 50, 38, 29, 17, 4, 62, 47, 59, 36, 45, 43, 51, 22, 53, 39, 33, 30, 24, 18, 12, 5, 63, 55, 48, 27, 60, 41, 37, 16, 46, 35, 44, 21, 52, 32, 23, 11, 54, 26, 40, 15, 34, 20, 31, 10, 25, 14, 19, 9, 13, 8, 7, 6]
abbrev laidL {H : Type} : List (String × DataW H) := [("math/bits.deBruijn32tab", Rows.laid_math_bits_deBruijn32tab), ("math/bits.deBruijn64tab", Rows.laid_math_bits_deBruijn64tab), ("internal/strconv.uint64pow10", Rows.laid_internal_strconv_uint64pow10)]
noncomputable def laidWorld (os : Os) : World :=
  let w0 := World.holding Tryd.prog os ⟨#[], #[], []⟩
  let put (h : Array Obj) (g : Nat) (cs : Array Value) : Array Obj := h.modify g fun
    | .cells _ t frozen => .cells cs t frozen
    | o => o
  let h1 := put w0.heap 3 (db32.map fun z => Value.int .u8 z).toArray
  let h2 := put h1 4 (db64.map fun z => Value.int .u8 z).toArray
  let h3 := put h2 2 (Lib.pow10Tab.map fun z => Value.int .u64 z).toArray
  { w0 with heap := h3 }
theorem laid_met (os : Os) (args : Array Value) : laidMet Tryd.prog laidL ((laidWorld os).forCall (fun _ _ => 0) ⟨#[], args, []⟩).memory :=
  LaidIn.met (LaidIn.of_run [3, 4, 2] 8 (by kernel_rfl) (by kernel_rfl) (by kernel_rfl) (by kernel_rfl))
theorem pow_data {H : Type} : (Rows.laid_internal_strconv_uint64pow10 : DataW H) = Lib.tabData .u64 Lib.pow10Tab := by rfl
/-- What the row's condition says of the table of powers. -/
theorem tab_of_laid {W : World} (h : laidMet Tryd.prog laidL W) : Lib.TabIs Tryd.prog W "internal/strconv.uint64pow10" .u64 Lib.pow10Tab := by
  have h2 := laidMet.tail (laidMet.tail h)
  rw [pow_data] at h2
  exact Lib.tabIs_of_head (g := 2) (by kernel_rfl) (by kernel_rfl) Tryd.underlying154 Tryd.underlying43 (by kernel_rfl) (by kernel_rfl) h2
end Sx
end Go.Proofs.YtionocafkaemiaaDoor
namespace Go.Proofs.YtionocafkaemiaaDoor
namespace Sx
open Go.ChangeShapes Go.WideShapes Go.ChangeAt Go.RowKit Go.Deep Go.Joins
section
variable {H : Type} {enc : TypeId × Value → H} {P : Program} {w : World} {base : Nat} {spare : Nat → Bool} {held : Bool}
theorem open_slice_fields {t e : TypeId} {fs : Array Field} {fuel : Nat} {cs : List Value} {x : DataW H × List MemPlace} (ht : P.underlying t = some (.slice e)) (he : P.underlying e = some (.struct fs))
    (hone : oneCellFields P fs = true) (hC : P.cellsOf e = fs.size) (h : DataW.trod enc P w base spare held fuel t cs = some x) :
    (cs = [.slice none 0 0] ∧ x = (.nil, [])) ∨
    ∃ (a : Addr) (len cap m : Nat) (D : Nat → DataW H) (Pl : Nat → List MemPlace), cs = [.slice (some a) len cap] ∧ base ≤ a.block ∧ len ≤ cap ∧ cap ≤ maxLen ∧ m = (if spare a.block then cap else len) ∧
      x = (.slice ((List.range len).map D) ((List.range (m - len)).map fun j => D (len + j)), MemPlace.row a (m * fs.size) ++ (List.range m).flatMap Pl) ∧
      ∀ i, i < m → ∃ (ys : List (DataW H × List MemPlace)) (n : Nat), D i = .agg (ys.map (·.1)) ∧ Pl i = ys.flatMap (·.2) ∧ ys.length = fs.size ∧
        ∀ (j : Nat) (f : Field), fs[j]? = some f → ∃ (v : Value) (y : DataW H × List MemPlace), w.cell? (a.add (i * fs.size + j)) = some v ∧ ys[j]? = some y ∧ DataW.trod enc P w base spare held n f.type [v] = some y := by
  rcases open_slice ht h with h0 | ⟨a, len, cap, m, n, D, Pl, hcs, hb, hl, hm, hmm, hx, hi⟩
  · exact .inl h0
  · refine .inr ⟨a, len, cap, m, D, Pl, hcs, hb, hl, hm, hmm, by rw [hC] at hx; exact hx, fun i him => ?_⟩
    obtain ⟨cs', hc, ht'⟩ := hi i him
    rw [hC] at hc
    obtain ⟨ys, n', hn', hy, hlen, hyl, hf⟩ := DataW.trod_struct he ht'
    obtain ⟨_, hcl, hat⟩ := World.cells?_some hc
    simp only [Prod.mk.injEq] at hy
    refine ⟨ys, n', hy.1, hy.2, hyl, fun j f hj => ?_⟩
    obtain ⟨ho, hk⟩ := hone_of hone j f hj
    have hjl : j < fs.size := (Array.getElem?_eq_some_iff.1 hj).1
    have hcell := hat j hjl
    have hv : cs'[j]? = some (cs'[j]'(by omega)) := List.getElem?_eq_getElem (by omega)
    have h1 := hf j f hj
    rw [ho, hk] at h1
    have hone' : (cs'.drop j).take 1 = [cs'[j]'(by omega)] := by
      rw [List.drop_eq_getElem_cons (by omega)]
      rfl
    rw [hone'] at h1
    have hys : ys[j]? = some (ys[j]'(by omega)) := List.getElem?_eq_getElem (by omega)
    refine ⟨_, _, ?_, hys, h1.trans hys⟩
    rw [← Go.Deep.add_add, hcell, hv]
theorem open_agg1 {r : Reach} {b0 : Nat} {t : TypeId} {f0 : Field} {v : Value} {d : DataW H} {p : List MemPlace} (hs : P.underlying t = some (.struct #[f0])) (hone : oneCellFields P #[f0] = true) (hC : P.cellsOf t = 1)
    (hv : Value.okWide P w r b0 t v) (h : DataW.Trod enc P w base spare held t v d p) :
    ∃ (v0 : Value) (y0 : DataW H × List MemPlace) (n : Nat), v = .agg #[v0] ∧ DataW.trod enc P w base spare held n f0.type [v0] = some y0 := by
  obtain ⟨cs, rfl, hsz⟩ := okWide_struct hs hv
  obtain ⟨l⟩ := cs
  match l, hsz.trans hC with
  | [c0], _ =>
    obtain ⟨fuel, hf⟩ := h
    obtain ⟨xs, n, _, hx, _, hlen, hg⟩ := DataW.trod_struct hs hf
    obtain ⟨o0, k0⟩ := hone_of hone 0 f0 rfl
    match xs, hlen with
    | [y0], _ => exact ⟨c0, y0, n, rfl, by simpa [Value.cells, o0, k0] using hg 0 f0 rfl⟩
end
theorem list_of {α : Type} (P : Nat → α → Prop) : ∀ len : Nat, (∀ j : Nat, j < len → ∃ x, P j x) → ∃ l : List α, l.length = len ∧ ∀ (j : Nat) (x : α), l[j]? = some x → P j x := by
  intro len
  induction len with
  | zero => exact fun _ => ⟨[], rfl, fun j x hx => by simp at hx⟩
  | succ n ih =>
    intro h
    obtain ⟨l, hl, hp⟩ := ih (fun j hj => h j (by omega))
    obtain ⟨x, hx⟩ := h n (by omega)
    refine ⟨l ++ [x], by simp [hl], fun j y hy => ?_⟩
    rcases Nat.lt_or_ge j n with hj | hj
    · exact hp j y (by rwa [List.getElem?_append_left (by omega)] at hy)
    · rw [List.getElem?_append_right (by omega)] at hy
      have : j = n := by
        have := (List.getElem?_eq_some_iff.1 hy).1
        simp at this; omega
      subst this
      rw [hl, Nat.sub_self] at hy
      obtain rfl : x = y := by simpa using hy
      exact hx
section
variable {H : Type} {enc : TypeId × Value → H} {W : World} {v : Value} {d : DataW H} {p : List MemPlace}
set_option maxRecDepth 100000 in
theorem open_samples {fuel : Nat} {sp : Nat → Bool} {held : Bool} {y : DataW H × List MemPlace} (hf : DataW.trod enc Tryd.prog W 0 sp held fuel 22 [v] = some y) :
    ∃ (A : Option Addr) (c : Nat) (L : List Sm), v = .slice A L.length c ∧ SAt W A c L ∧ (A = none → c = 0) := by
  rcases open_slice_fields Tryd.underlying22 Tryd.underlying49 (by kernel_rfl) (by kernel_rfl) hf with ⟨hcs, _⟩ | ⟨a, len, cap, m, D, Pl, hcs, _, hl, hm, hmm, _, hi⟩
  · simp only [List.cons.injEq, and_true] at hcs
    subst hcs
    exact ⟨none, 0, [], rfl, eat_nil _, fun _ => rfl⟩
  · simp only [List.cons.injEq, and_true] at hcs
    subst hcs
    have hlm : len ≤ m := by rw [hmm]; split <;> omega
    have hspot : 0 < len → a.spot = none := by
      intro h0
      obtain ⟨ys, n, _, _, _, hfl⟩ := hi 0 (by omega)
      obtain ⟨v0, y0, c0, _, t0⟩ := hfl 0 _ rfl
      have := World.cell?_spot c0
      rwa [Nat.zero_mul, Addr.add, if_pos rfl] at this
    have key : ∀ j : Nat, j < len → ∃ b : Sm, ∃ g o, some a = some ⟨g, o, none⟩ ∧ g < W.heap.size ∧ ∀ i v, i < 2 → (es b)[i]? = some v → W.cell? ⟨g, o + j * 2 + i, none⟩ = some v := by
      intro j hj
      obtain ⟨ys, n, _, _, _, hfl⟩ := hi j (by omega)
      obtain ⟨v0, y0, c0, _, t0⟩ := hfl 0 _ rfl
      obtain ⟨v1, y1, c1, _, t1⟩ := hfl 1 _ rfl
      obtain ⟨n0, e0, _, _⟩ := DataW.trod_int Tryd.underlying2 t0
      obtain ⟨n1, e1, _, _⟩ := DataW.trod_int Tryd.underlying2 t1
      simp only [List.cons.injEq, and_true] at e0 e1
      subst e0 e1
      obtain ⟨g, o, spot⟩ := a
      obtain rfl : spot = none := hspot (by omega)
      rw [add_plain] at c0 c1
      have hg : g < W.heap.size := World.block_lt_of_cell? _ (a := ⟨g, _, none⟩) c0
      refine ⟨⟨n0, n1⟩, g, o, rfl, hg, fun i v hi hv => ?_⟩
      rcases (by omega : i = 0 ∨ i = 1) with rfl | rfl
      · simp [es] at hv; subst hv; simpa [Nat.add_assoc] using c0
      · simp [es] at hv; subst hv; simpa [Nat.add_assoc] using c1
    obtain ⟨l, rfl, hp⟩ := list_of _ len key
    exact ⟨some a, cap, l, rfl, ⟨hl, hm, hp⟩, fun h => by cases h⟩
set_option maxRecDepth 100000 in
theorem open_series {r : Reach} {b0 : Nat} (hv : Value.okWide Tryd.prog W r b0 24 v) (h : DataW.Trod enc Tryd.prog W 0 (fun _ => true) true 24 v d p) :
    ∃ (A : Option Addr) (c : Nat) (L : List Sm), v = sv A L.length c ∧ SAt W A c L ∧ (A = none → c = 0) := by
  obtain ⟨v0, y0, n, rfl, t0⟩ := open_agg1 Tryd.underlying24 (by kernel_rfl) (by kernel_rfl) hv h
  obtain ⟨A, c, L, rfl, hL⟩ := open_samples t0
  exact ⟨A, c, L, rfl, hL⟩
theorem i64_bd {n : Int} (h : (Lit.int .i64 n).wf = true) : -9223372036854775808 ≤ n ∧ n ≤ 9223372036854775807 := by
  have h := h
  simp only [Lit.wf, decide_eq_true_eq, Bool.and_eq_true] at h
  have h1 : IntKind.i64.min = -9223372036854775808 := by decide
  have h2 : IntKind.i64.max = 9223372036854775807 := by decide
  omega
set_option maxRecDepth 100000 in
theorem open_part {r : Reach} {b0 : Nat} (hv : Value.okWide Tryd.prog W r b0 26 v) (h : DataW.Trod enc Tryd.prog W 0 (fun _ => true) true 26 v d p) : ∃ f t : Int, v = .agg #[.int .i64 f, .int .i64 t] ∧ (-9223372036854775808 ≤ f ∧ f ≤ 9223372036854775807) ∧ (-9223372036854775808 ≤ t ∧ t ≤ 9223372036854775807) := by
  obtain ⟨v0, v1, y0, y1, n, rfl, _, _, t0, t1⟩ := open_agg2 Tryd.underlying26 (by kernel_rfl) (by kernel_rfl) hv h
  obtain ⟨n0, e0, _, w0⟩ := DataW.trod_int Tryd.underlying2 t0
  obtain ⟨n1, e1, _, w1⟩ := DataW.trod_int Tryd.underlying2 t1
  simp only [List.cons.injEq, and_true] at e0 e1
  subst e0 e1
  exact ⟨n0, n1, rfl, i64_bd w0, i64_bd w1⟩
end
end Sx
end Go.Proofs.YtionocafkaemiaaDoor
namespace Go.Proofs.YtionocafkaemiaaDoor
namespace Sx
open Go.ChangeShapes Go.WideShapes Go.ChangeAt Go.RowKit Go.Deep Go.Joins
theorem wf_u8' {n : Int} (h : (Lit.int .u8 n).wf = true) : ∃ k : Nat, n = (k : Int) ∧ k < 256 := by
  simp only [Lit.wf, IntKind.min, IntKind.max, IntKind.signed, IntKind.bits, Bool.and_eq_true, decide_eq_true_eq, Bool.false_eq_true, if_false] at h
  obtain ⟨k, rfl⟩ := Int.eq_ofNat_of_zero_le (show 0 ≤ n by omega)
  exact ⟨k, rfl, by omega⟩
theorem wf_u64' {n : Int} (h : (Lit.int .u64 n).wf = true) : ∃ k : Nat, n = (k : Int) ∧ k < 2 ^ 64 := by
  simp only [Lit.wf, IntKind.min, IntKind.max, IntKind.signed, IntKind.bits, Bool.and_eq_true, decide_eq_true_eq, Bool.false_eq_true, if_false] at h
  obtain ⟨k, rfl⟩ := Int.eq_ofNat_of_zero_le (show 0 ≤ n by omega)
  exact ⟨k, rfl, by omega⟩
section
variable {H : Type} {enc : TypeId × Value → H} {W : World} {v : Value} {d : DataW H} {p : List MemPlace}
set_option maxRecDepth 100000 in
theorem open_bytes {n : Nat} {v : Value} {y : DataW H × List MemPlace} (hf : DataW.trod enc Tryd.prog W 0 (fun _ => true) true n 44 [v] = some y) :
    ∃ (A : Option Addr) (c : Nat) (T : List Nat), v = .slice A T.length c ∧ EAt enB 1 W A c T ∧ ∀ x, x ∈ T → x < 256 := by
  rcases open_ints Tryd.underlying44 Tryd.underlying5 (by kernel_rfl) hf with ⟨hcs, _⟩ | ⟨a, len, cap, zs, hcs, _, hl, hm, hz, _, hc, hwf⟩
  · simp only [List.cons.injEq, and_true] at hcs
    exact ⟨none, 0, [], hcs, eat_nil _, fun x hx => by cases hx⟩
  · simp only [List.cons.injEq, and_true] at hcs
    subst hcs
    have hlm : len ≤ zs.length := by rw [hz]; split <;> omega
    have key : ∀ j : Nat, j < len → ∃ x : Nat, (∃ g o, some a = some ⟨g, o, none⟩ ∧ g < W.heap.size ∧ W.cell? ⟨g, o + j, none⟩ = some (.int .u8 (x : Int))) ∧ x < 256 := by
      intro j hj
      have h1 := hc j (by omega)
      have hmem : zs.getD j 0 ∈ zs := by
        rw [List.getD_eq_getElem?_getD, List.getElem?_eq_getElem (by omega)]
        exact List.getElem_mem _
      obtain ⟨x, hx, hx8⟩ := wf_u8' (hwf _ hmem)
      obtain ⟨g, o, spot⟩ := a
      have h0 := World.cell?_spot (hc 0 (by omega))
      rw [Addr.add, if_pos rfl] at h0
      have h0 : spot = none := h0
      subst h0
      rw [add_plain] at h1
      rw [hx] at h1
      exact ⟨x, ⟨g, o, rfl, World.block_lt_of_cell? _ (a := ⟨g, _, none⟩) h1, h1⟩, hx8⟩
    obtain ⟨l, rfl, hp⟩ := list_of _ len key
    refine ⟨some a, cap, l, rfl, ⟨hl, hm, fun j x hx => ?_⟩, fun x hx => ?_⟩
    · obtain ⟨⟨g, o, h1, h2, h3⟩, _⟩ := hp j x hx
      refine ⟨g, o, h1, h2, fun i w hi hw => ?_⟩
      have hi0 : i = 0 := by omega
      subst hi0
      simp at hw
      rw [← hw, Nat.mul_one]; exact h3
    · obtain ⟨j, hj, rfl⟩ := List.mem_iff_getElem.1 hx
      exact (hp j _ (List.getElem?_eq_getElem hj)).2
set_option maxRecDepth 100000 in
theorem open_cover {r : Reach} {b0 : Nat} (hv : Value.okWide Tryd.prog W r b0 46 v) (h : DataW.Trod enc Tryd.prog W 0 (fun _ => true) true 46 v d p) :
    ∃ (u most : Int) (bits : Nat) (M : Option Addr) (c : Nat) (more : List Nat), v = cv u most bits M more.length c ∧ (-9223372036854775808 ≤ most ∧ most ≤ 9223372036854775807) ∧ bits < 2 ^ 64 ∧ EAt enB 1 W M c more ∧ ∀ x, x ∈ more → x < 256 := by
  obtain ⟨v0, v1, v2, v3, y0, y1, y2, y3, n, rfl, _, _, t0, t1, t2, t3⟩ := open_agg4 Tryd.underlying46 (by kernel_rfl) (by kernel_rfl) hv h
  obtain ⟨n0, e0, _, w0⟩ := DataW.trod_int Tryd.underlying2 t0
  obtain ⟨n1, e1, _, w1⟩ := DataW.trod_int Tryd.underlying3 t1
  obtain ⟨n2, e2, _, w2⟩ := DataW.trod_int Tryd.underlying43 t2
  simp only [List.cons.injEq, and_true] at e0 e1 e2
  subst e0 e1 e2
  obtain ⟨k, rfl, hk⟩ := wf_u64' w2
  obtain ⟨A, c, T, rfl, hT, h8⟩ := open_bytes t3
  exact ⟨n0, n1, k, A, c, T, rfl, i64_bd w1, hk, hT, h8⟩
end
end Sx
end Go.Proofs.YtionocafkaemiaaDoor
