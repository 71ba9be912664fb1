/- The example of the document. The arguments: slices of blocks, of integers. (open_slice_fields is after the guide's own worked blocks.) -/
import Derived.Test.YtjgakcpjphdicaaK21
import Derived.Test.YtjgakcpjphdicaaK30
import Derived.Test.YtjgakcpjphdicaaK35
import Derived.Test.YtjgakcpjphdicaaK1
import Derived.WalkKit
import Derived.ProofKit
import Derived.OpenShut
import Derived.ChangeOld
import Derived.Below
import Derived.Deep.Slices
import Derived.Deep.Fields
import Derived.ChangeSame
import Derived.Lib.SmallJoins
namespace Go.Proofs.Ytjgakcpjphdicaa
open Go.RowKit
namespace Of

theorem row_four {w w' : World} {ga : Nat} {M : List Int} (h : RowI 2 w ga M) (hm : M.length ≤ maxLen) (hb : Below w.heap.size w w') : IAt w' (some ⟨ga, 0, none⟩) M.length M := (h.at hm).below hb (Nat.le_refl _)
theorem four_new (w : World) (a b c d : Int) (T : TypeId) : IAt (w.alloc (.cells #[.int .i64 a, .int .i64 b, .int .i64 c, .int .i64 d] T)) (some ⟨w.heap.size, 0, none⟩) 4 [a, b, c, d] := by
  have h : (w.alloc (.cells #[.int .i64 a, .int .i64 b, .int .i64 c, .int .i64 d] T)).heap[w.heap.size]? = some (.cells #[.int .i64 a, .int .i64 b, .int .i64 c, .int .i64 d] T (0, 0)) := by rw [heapAlloc, if_pos rfl]
  refine ⟨Nat.le_refl _, by unfold maxLen; omega, fun j x hx => ⟨w.heap.size, 0, rfl, by simp, ?_⟩⟩
  rw [cell_of_row _ _ _ _ _ _ h]
  have hj : j < 4 := by have := (List.getElem?_eq_some_iff.1 hx).1; simpa using this
  match j, hj with
  | 0, _ => simp at hx; subst hx; rfl
  | 1, _ => simp at hx; subst hx; rfl
  | 2, _ => simp at hx; subst hx; rfl
  | 3, _ => simp at hx; subst hx; rfl
set_option maxRecDepth 100000 in
set_option maxHeartbeats 8000000 in
theorem shown_ok (w : World) : Calls Try.prog 11 #[] w fun e w' => e = .returned (.bool true) ∧ Below w.heap.size w w' := by
  go_enter Try.func11, Try.ntmps11
  go_wp2_with (go_at_call 32; fail)
  refine (example_ok w).mono ?_
  rintro e w1 ⟨g1, rfl, h1, -, b1⟩
  have H1 := Lib.hid b1
  have hp := Peak_ok _ _ _ w1 h1
  rw [ex_peak] at hp
  have HP := Lib.hid hp
  clear h1 b1 hp
  go_wp2_with (go_at_call 21; fail)
  refine HP.out.mono ?_
  rintro e w2 ⟨rfl, b2⟩
  have H2 := Lib.hid (H1.out.trans (b2.mono H1.out.size))
  clear b2 HP H1
  go_wp2_with (go_at_call 32; fail)
  refine (example_ok w2).mono ?_
  rintro e w3 ⟨g3, rfl, h3, -, b3⟩
  have H3 := Lib.hid (H2.out.trans (b3.mono H2.out.size))
  have hq := Quick_ok w3 _ _ _ h3 (fun _ => stabS_small (by decide))
  have HQ := Lib.hid (hq.mono fun e w' h => h.2 ex_check)
  clear h3 b3 H2 hq
  go_wp2_with (go_at_call 23; fail)
  refine HQ.out.mono ?_
  rintro e w4 ⟨ga, rfl, h4, -, b4⟩
  rw [show exL.length = 4 from rfl, ex_quick.1, ex_quick.2.1] at h4
  rw [show (lays exL (qord exL exL.length)).T = 36 from by rw [show exL.length = 4 from rfl, ex_quick.1, ex_quick.2.2]]
  have H4 := Lib.hid (And.intro h4 (H3.out.trans (b4.mono H3.out.size)))
  clear h4 b4 HQ H3
  go_wp2_with (go_at_call 32; fail)
  refine (example_ok w4).mono ?_
  rintro e w5 ⟨g5, rfl, h5, -, b5⟩
  have H5 := Lib.hid (And.intro b5 (H4.out.2.trans (b5.mono H4.out.2.size)))
  have HB := Lib.hid ((Best_ok w5 _ _ _ h5).mono fun e w' h => h.yes ex_check (by decide))
  clear h5 b5
  go_wp2_with (go_at_call 12; fail)
  refine HB.out.mono ?_
  rintro e w6 ⟨gb, oA, oc, rfl, h6, h6o, b6⟩
  rw [ex_best] at h6 h6o ⊢
  rw [ex_best2.1] at h6
  rw [ex_best2.2]
  have H6 := Lib.hid (And.intro h6 (And.intro h6o (And.intro (H5.out.1.trans (b6.mono H5.out.1.size)) (H5.out.2.trans (b6.mono H5.out.2.size)))))
  clear h6 h6o b6 HB H5
  go_wp2_with (go_at_call 32; fail)
  refine (example_ok w6).mono ?_
  rintro e w7 ⟨g7, rfl, h7, -, b7⟩
  have b8 := below_box w7 (.cells #[.int .i64 0, .int .i64 10, .int .i64 0, .int .i64 16] 2)
  have i8 := four_new w7 0 10 0 16 2
  have l8 := h7.below b8 (Nat.le_refl _)
  have hw := Waste_ok _ _ _ _ _ _ _ l8 i8 (by simp)
  rw [ex_waste] at hw
  have H7 := Lib.hid (And.intro b7 (And.intro b8 hw))
  clear h7 b7 b8 i8 l8 hw
  go_wp2_with (go_at_call 18; fail)
  refine H7.out.2.2.mono ?_
  rintro e w8 ⟨rfl, b9⟩
  have hb68 : Below w6.heap.size w6 w8 := H7.out.1.trans ((H7.out.2.1.trans (b9.mono H7.out.2.1.size)).mono H7.out.1.size)
  have hqa := row_four H4.out.1 (by unfold maxLen; decide) (H6.out.2.2.1.trans (hb68.mono H6.out.2.2.1.size))
  have hba := row_four H6.out.1 (by unfold maxLen; decide) hb68
  have hoa := H6.out.2.1.below hb68 (Nat.le_refl _)
  have H8 := Lib.hid (And.intro hqa (And.intro hba (And.intro hoa (H6.out.2.2.2.trans (hb68.mono H6.out.2.2.2.size)))))
  clear hqa hba hoa hb68 b9 H7
  go_wp2_with (go_at_call 14; fail)
  have s8 := below_box w8 (.cells #[.int .i64 0, .int .i64 10, .int .i64 0, .int .i64 16] 2)
  refine (same_ok _ (some ⟨ga, 0, none⟩) (some ⟨w8.heap.size, 0, none⟩) 4 4 [0, 10, 0, 16] [0, 10, 0, 16] (H8.out.1.below s8 (Nat.le_refl _)) (four_new w8 0 10 0 16 2)).mono ?_
  rintro e w9 ⟨rfl, q9, hw9⟩
  rw [show decide ((([0, 10, 0, 16] : List Int)) = [0, 10, 0, 16]) = true from by decide]
  have s9 : Below w8.heap.size w8 w9 := by rw [hw9]; exact below_drewN s8 q9
  have H9 := Lib.hid (And.intro (H8.out.2.1.below s9 (Nat.le_refl _)) (And.intro (H8.out.2.2.1.below s9 (Nat.le_refl _)) (H8.out.2.2.2.trans (s9.mono H8.out.2.2.2.size))))
  clear s8 s9 hw9 H8
  go_wp2_with (go_at_call 14; fail)
  have s8 := below_box w9 (.cells #[.int .i64 20, .int .i64 0, .int .i64 20, .int .i64 0] 2)
  refine (same_ok _ (some ⟨gb, 0, none⟩) (some ⟨w9.heap.size, 0, none⟩) 4 4 [20, 0, 20, 0] [20, 0, 20, 0] (H9.out.1.below s8 (Nat.le_refl _)) (four_new w9 20 0 20 0 2)).mono ?_
  rintro e w10 ⟨rfl, q10, hw10⟩
  rw [show decide ((([20, 0, 20, 0] : List Int)) = [20, 0, 20, 0]) = true from by decide]
  have s10 : Below w9.heap.size w9 w10 := by rw [hw10]; exact below_drewN s8 q10
  have H10 := Lib.hid (And.intro (H9.out.2.1.below s10 (Nat.le_refl _)) (H9.out.2.2.trans (s10.mono H9.out.2.2.size)))
  clear s8 s10 hw10 H9
  go_wp2_with (go_at_call 15; fail)
  have s8 := below_box w10 (.cells #[.int .i64 1, .int .i64 0, .int .i64 2, .int .i64 3] 3)
  refine (ints_ok _ oA (some ⟨w10.heap.size, 0, none⟩) oc 4 [1, 0, 2, 3] [1, 0, 2, 3] (H10.out.1.below s8 (Nat.le_refl _)) (four_new w10 1 0 2 3 3)).mono ?_
  rintro e w11 ⟨rfl, q11, hw11⟩
  rw [show decide ((([1, 0, 2, 3] : List Int)) = [1, 0, 2, 3]) = true from by decide]
  have s11 : Below w10.heap.size w10 w11 := by rw [hw11]; exact below_drewN s8 q11
  have H11 := Lib.hid (H10.out.2.trans (s11.mono H10.out.2.size))
  clear s8 s11 hw11 H10
  go_wp2
  go_ret
  exact ⟨rfl, H11.out⟩
end Of
end Go.Proofs.Ytjgakcpjphdicaa
namespace Go.Proofs.Ytjgakcpjphdicaa
namespace Of
open Go.ChangeShapes Go.WideShapes Go.ChangeAt Go.RowKit Go.Deep Go.Joins
section
variable {H : Type} {enc : TypeId × Value → H} {P : Program} {w : World} {base : Nat} {spare : Nat → Bool} {held : Bool}
theorem open_slice_fields {t e : TypeId} {fs : Array Field} {fuel : Nat} {cs : List Value} {x : DataW H × List MemPlace} (ht : P.underlying t = some (.slice e)) (he : P.underlying e = some (.struct fs))
    (hone : oneCellFields P fs = true) (hC : P.cellsOf e = fs.size) (h : DataW.trod enc P w base spare held fuel t cs = some x) :
    (cs = [.slice none 0 0] ∧ x = (.nil, [])) ∨
    ∃ (a : Addr) (len cap m : Nat) (D : Nat → DataW H) (Pl : Nat → List MemPlace), cs = [.slice (some a) len cap] ∧ base ≤ a.block ∧ len ≤ cap ∧ cap ≤ maxLen ∧ m = (if spare a.block then cap else len) ∧
      x = (.slice ((List.range len).map D) ((List.range (m - len)).map fun j => D (len + j)), MemPlace.row a (m * fs.size) ++ (List.range m).flatMap Pl) ∧
      ∀ i, i < m → ∃ (ys : List (DataW H × List MemPlace)) (n : Nat), D i = .agg (ys.map (·.1)) ∧ Pl i = ys.flatMap (·.2) ∧ ys.length = fs.size ∧
        ∀ (j : Nat) (f : Field), fs[j]? = some f → ∃ (v : Value) (y : DataW H × List MemPlace), w.cell? (a.add (i * fs.size + j)) = some v ∧ ys[j]? = some y ∧ DataW.trod enc P w base spare held n f.type [v] = some y := by
  rcases open_slice ht h with h0 | ⟨a, len, cap, m, n, D, Pl, hcs, hb, hl, hm, hmm, hx, hi⟩
  · exact .inl h0
  · refine .inr ⟨a, len, cap, m, D, Pl, hcs, hb, hl, hm, hmm, by rw [hC] at hx; exact hx, fun i him => ?_⟩
    obtain ⟨cs', hc, ht'⟩ := hi i him
    rw [hC] at hc
    obtain ⟨ys, n', hn', hy, hlen, hyl, hf⟩ := DataW.trod_struct he ht'
    obtain ⟨_, hcl, hat⟩ := World.cells?_some hc
    simp only [Prod.mk.injEq] at hy
    refine ⟨ys, n', hy.1, hy.2, hyl, fun j f hj => ?_⟩
    obtain ⟨ho, hk⟩ := hone_of hone j f hj
    have hjl : j < fs.size := (Array.getElem?_eq_some_iff.1 hj).1
    have hcell := hat j hjl
    have hv : cs'[j]? = some (cs'[j]'(by omega)) := List.getElem?_eq_getElem (by omega)
    have h1 := hf j f hj
    rw [ho, hk] at h1
    have hone' : (cs'.drop j).take 1 = [cs'[j]'(by omega)] := by
      rw [List.drop_eq_getElem_cons (by omega)]
      rfl
    rw [hone'] at h1
    have hys : ys[j]? = some (ys[j]'(by omega)) := List.getElem?_eq_getElem (by omega)
    refine ⟨_, _, ?_, hys, h1.trans hys⟩
    rw [← Go.Deep.add_add, hcell, hv]
end
theorem list_of {α : Type} (P : Nat → α → Prop) : ∀ len : Nat, (∀ j : Nat, j < len → ∃ x, P j x) → ∃ l : List α, l.length = len ∧ ∀ (j : Nat) (x : α), l[j]? = some x → P j x := by
  intro len
  induction len with
  | zero => exact fun _ => ⟨[], rfl, fun j x hx => by simp at hx⟩
  | succ n ih =>
    intro h
    obtain ⟨l, hl, hp⟩ := ih (fun j hj => h j (by omega))
    obtain ⟨x, hx⟩ := h n (by omega)
    refine ⟨l ++ [x], by simp [hl], fun j y hy => ?_⟩
    rcases Nat.lt_or_ge j n with hj | hj
    · exact hp j y (by rwa [List.getElem?_append_left (by omega)] at hy)
    · rw [List.getElem?_append_right (by omega)] at hy
      have : j = n := by
        have := (List.getElem?_eq_some_iff.1 hy).1
        simp at this; omega
      subst this
      rw [hl, Nat.sub_self] at hy
      obtain rfl : x = y := by simpa using hy
      exact hx

section
variable {H : Type} {enc : TypeId × Value → H} {W : World} {v : Value} {d : DataW H} {p : List MemPlace}
set_option maxRecDepth 100000 in
theorem open_blocks {r : Reach} {b0 : Nat} (hv : Value.okWide Try.prog W r b0 22 v) (h : DataW.Trod enc Try.prog W 0 (fun _ => true) true 22 v d p) :
    ∃ (A : Option Addr) (c : Nat) (L : List OB), v = .slice A L.length c ∧ OBAt W A c L := by
  obtain ⟨A, len, cap, rfl⟩ := okWide_slice Try.underlying22 hv
  obtain ⟨fuel, hf⟩ := h
  rcases open_slice_fields Try.underlying22 Try.underlying42 (by kernel_rfl) (by kernel_rfl) hf with ⟨hcs, _⟩ | ⟨a, len, cap, m, D, Pl, hcs, _, hl, hm, hmm, _, hi⟩
  · simp only [Value.cells, List.cons.injEq, Value.slice.injEq, and_true] at hcs
    obtain ⟨rfl, rfl, rfl⟩ := hcs
    exact ⟨none, 0, [], rfl, Nat.le_refl _, Nat.zero_le _, fun j x hx => by simp at hx⟩
  · simp only [Value.cells, List.cons.injEq, Value.slice.injEq, and_true] at hcs
    obtain ⟨rfl, rfl, rfl⟩ := hcs
    have hlm : len ≤ m := by rw [hmm]; split <;> omega
    have hspot : 0 < len → a.spot = none := by
      intro h0
      obtain ⟨ys, n, _, _, _, hfl⟩ := hi 0 (by omega)
      obtain ⟨v0, y0, c0, _, t0⟩ := hfl 0 _ rfl
      have := World.cell?_spot c0
      rwa [Nat.zero_mul, Addr.add, if_pos rfl] at this
    have key : ∀ j : Nat, j < len → ∃ b : OB, ∃ g o, some a = some ⟨g, o, none⟩ ∧ g < W.heap.size ∧ W.cell? ⟨g, o + j * 4, none⟩ = some (.int .i64 b.s) ∧ W.cell? ⟨g, o + j * 4 + 1, none⟩ = some (.int .i64 b.a) ∧ W.cell? ⟨g, o + j * 4 + 2, none⟩ = some (.int .i64 b.f) ∧ W.cell? ⟨g, o + j * 4 + 3, none⟩ = some (.int .i64 b.t) := by
      intro j hj
      obtain ⟨ys, n, _, _, _, hfl⟩ := hi j (by omega)
      obtain ⟨v0, y0, c0, _, t0⟩ := hfl 0 _ rfl
      obtain ⟨v1, y1, c1, _, t1⟩ := hfl 1 _ rfl
      obtain ⟨v2, y2, c2, _, t2⟩ := hfl 2 _ rfl
      obtain ⟨v3, y3, c3, _, t3⟩ := hfl 3 _ rfl
      obtain ⟨n0, e0, _, _⟩ := DataW.trod_int Try.underlying2 t0
      obtain ⟨n1, e1, _, _⟩ := DataW.trod_int Try.underlying2 t1
      obtain ⟨n2, e2, _, _⟩ := DataW.trod_int Try.underlying3 t2
      obtain ⟨n3, e3, _, _⟩ := DataW.trod_int Try.underlying3 t3
      simp only [List.cons.injEq, and_true] at e0 e1 e2 e3
      subst e0 e1 e2 e3
      obtain ⟨g, o, spot⟩ := a
      obtain rfl : spot = none := hspot (by omega)
      rw [add_plain] at c0 c1 c2 c3
      have hg : g < W.heap.size := World.block_lt_of_cell? _ (a := ⟨g, _, none⟩) c0
      exact ⟨⟨n0, n1, n2, n3⟩, g, o, rfl, hg, by simpa [Nat.add_assoc] using c0, by simpa [Nat.add_assoc] using c1, by simpa [Nat.add_assoc] using c2, by simpa [Nat.add_assoc] using c3⟩
    obtain ⟨l, rfl, hp⟩ := list_of _ len key
    exact ⟨some a, cap, l, rfl, hl, hm, hp⟩
set_option maxRecDepth 100000 in
theorem open_row {r : Reach} {b0 : Nat} {ts te : TypeId} (hts : Try.prog.underlying ts = some (.slice te)) (hte : Try.prog.underlying te = some (.int .i64)) (hc1 : Try.prog.cellsOf te = 1) (hv : Value.okWide Try.prog W r b0 ts v) (h : DataW.Trod enc Try.prog W 0 (fun _ => true) true ts v d p) :
    ∃ (A : Option Addr) (c : Nat) (M : List Int), v = .slice A M.length c ∧ IAt W A c M := by
  obtain ⟨A, len, cap, rfl⟩ := okWide_slice hts hv
  obtain ⟨fuel, hf⟩ := h
  rcases open_ints hts hte hc1 hf with ⟨hcs, _⟩ | ⟨a, l, c, zs, hcs, _, hl, hm, hz, _, hc, hwf⟩
  · simp only [Value.cells, List.cons.injEq, Value.slice.injEq, and_true] at hcs
    obtain ⟨rfl, rfl, rfl⟩ := hcs
    exact ⟨none, 0, [], rfl, Nat.le_refl _, Nat.zero_le _, fun j x hx => by simp at hx⟩
  · simp only [Value.cells, List.cons.injEq, Value.slice.injEq, and_true] at hcs
    obtain ⟨rfl, rfl, rfl⟩ := hcs
    have hlm : len ≤ zs.length := by rw [hz]; split <;> omega
    have key : ∀ j : Nat, j < len → ∃ x : Int, ∃ g o, some a = some ⟨g, o, none⟩ ∧ g < W.heap.size ∧ W.cell? ⟨g, o + j, none⟩ = some (.int .i64 x) := by
      intro j hj
      have h1 := hc j (by omega)
      obtain ⟨g, o, spot⟩ := a
      have h0 := World.cell?_spot (hc 0 (by omega))
      rw [Addr.add, if_pos rfl] at h0
      have h0 : spot = none := h0
      subst h0
      rw [add_plain] at h1
      exact ⟨_, g, o, rfl, World.block_lt_of_cell? _ (a := ⟨g, _, none⟩) h1, h1⟩
    obtain ⟨l, rfl, hp⟩ := list_of _ len key
    exact ⟨some a, cap, l, rfl, hl, hm, hp⟩
set_option maxRecDepth 100000 in
theorem open_i64s {r : Reach} {b0 : Nat} (hv : Value.okWide Try.prog W r b0 24 v) (h : DataW.Trod enc Try.prog W 0 (fun _ => true) true 24 v d p) :
    ∃ (A : Option Addr) (c : Nat) (M : List Int), v = .slice A M.length c ∧ IAt W A c M := open_row Try.underlying24 Try.underlying2 (by kernel_rfl) hv h
set_option maxRecDepth 100000 in
theorem open_order {r : Reach} {b0 : Nat} (hv : Value.okWide Try.prog W r b0 25 v) (h : DataW.Trod enc Try.prog W 0 (fun _ => true) true 25 v d p) :
    ∃ (A : Option Addr) (c : Nat) (M : List Int), v = .slice A M.length c ∧ IAt W A c M := open_row Try.underlying25 Try.underlying3 (by kernel_rfl) hv h
end
end Of
end Go.Proofs.Ytjgakcpjphdicaa
