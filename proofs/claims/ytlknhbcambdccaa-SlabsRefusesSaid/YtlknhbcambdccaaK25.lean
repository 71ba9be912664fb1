/- SlabsKnown: the walk. The arguments, once more: a nil slice has no capacity. A slice of blocks appended to a slice of the call's own, in a region that draws its order; blocks that are freed one by one. Slices of addresses: parts of them, and how they are appended. -/
import Derived.Test.YtlknhbcambdccaaK24
import Derived.Test.YtlknhbcambdccaaK13
import Derived.Test.YtlknhbcambdccaaK14
import Derived.Deep.RegionLaw
import Derived.Deep.Slices
import Derived.ChangeSlices
import Derived.Test.YtlknhbcambdccaaK19
namespace Go.Proofs.Ytlknhbcambdccaa
open Go.RowKit
namespace Sl
open Bu

def kn1 : List Slb := [⟨0, [true, false]⟩, ⟨1, [true, true]⟩]
def kn2 : List Slb := [⟨0, [true, false]⟩, ⟨1, [false, true]⟩]
def kn3 : List Slb := [⟨0, [true, false]⟩]
abbrev KC (l : List Slb) : Ca := ⟨24, 0, 0, l⟩
theorem knA : freeC (KC shS3) (exL 3) 24 = (0, kn1, exL 3) := by kernel_rfl
theorem knB : freeC (KC kn1) (exL 3) 24 = (9, kn1, exL 3) := by kernel_rfl
theorem knC : freeC (KC kn1) (exL 3) 48 = (4, kn1, exL 3) := by kernel_rfl
theorem knD : freeC (KC kn1) (exL 3) 1 = (4, kn1, exL 3) := by kernel_rfl
theorem knO1 : ownerC (KC kn1) 90 = some (88, true) := by kernel_rfl
theorem knO2 : ownerC (KC kn1) 30 = some (24, false) := by kernel_rfl
theorem knO3 : ownerC (KC kn1) 50 = none := by kernel_rfl
theorem knE : freeC (KC kn1) (exL 3) 64 = (0, kn2, exL 3) := by kernel_rfl
theorem knF : freeC (KC kn2) (exL 3) 88 = (0, kn3, [(0, 0)]) := by kernel_rfl
theorem kn12 : sizesB 12 0 0 = false := by kernel_rfl
theorem kn72 : sizesB 72 0 0 = false := by kernel_rfl
theorem kn_view : viewS kn3 = [.int .i64 0, .int .i64 1] := by kernel_rfl

theorem row_at {w : World} {B e s u n cap i : Nat} {xs : List Value} {v : Value} (h : w.ownsRow B e s (.slice (some ⟨u, 0, none⟩) n cap) n xs) (hi : xs[i]? = some v) : w.cell? ⟨u, i, none⟩ = some v := by
  rcases h.2 with ⟨hv, _⟩ | ⟨g, cp, cur, hv, _, hg, _, _, _, hx⟩
  · cases hv
  · injection hv with h1
    injection h1 with h1; injection h1 with h1
    subst h1
    rw [cell_of_row _ _ _ _ _ _ hg]
    rw [← hx, List.getElem?_take] at hi
    split at hi
    · rw [← Array.getElem?_toList]; exact hi
    · cases hi
theorem row_capsA {w : World} {B e s u n cap : Nat} {xs : List Value} (h : w.ownsRow B e s (.slice (some ⟨u, 0, none⟩) n cap) n xs) : n ≤ cap ∧ cap ≤ maxLen ∧ u < w.heap.size ∧ B ≤ u := by
  rcases h.2 with ⟨hv, _⟩ | ⟨g, cp, cur, hv, hB, hg, h1, h2, _⟩
  · cases hv
  · injection hv with e1 e2 e3
    injection e1 with e1; injection e1 with e1
    subst e1; subst e3
    exact ⟨h1, h2, lt_of_heap hg, hB⟩
theorem row_some {w : World} {B e s n cap : Nat} {A : Option Addr} {xs : List Value} (h : w.ownsRow B e s (.slice A n cap) n xs) (hn : 1 ≤ n) : ∃ g, A = some ⟨g, 0, none⟩ := by
  rcases h.2 with ⟨_, h0⟩ | ⟨g, cp, cur, hv, _⟩
  · omega
  · injection hv with hv; exact ⟨g, hv⟩

set_option maxRecDepth 100000 in
set_option maxHeartbeats 8000000 in
theorem known_walk (w : World) : Calls Try.prog 3 #[] w fun e w' => e = .returned (.bool true) ∧ Below w.heap.size w w' := by
  have HE := Lib.hid (example_ok w)
  have hq : ∀ (w : World) (p : Option Addr), (binOp .eql 22 (.pointer p) (.pointer none)).run Try.prog w = .ok (.bool p.isNone) w := fun w p => run_eql_ptr_nil Try.prog w 22 _ p Try.underlying22
  have hqs : ∀ w : World, (binOp .eql 39 (.agg #[.int .i64 0, .int .i64 1]) (.agg #[.int .i64 0, .int .i64 1])).run Try.prog w = .ok (.bool true) w := fun w => by kernel_rfl
  go_enter Try.func3, Try.ntmps3
  go_wp2_with (go_at_call 10; fail)
  refine HE.out.mono ?_
  rintro e W1 ⟨own1, c, b, rfl, hM1⟩
  have H2 := Lib.hid (hM1.free (at_ := 0) (by decide) (by decide) shF)
  clear hM1 HE
  go_wp2_with (go_at_call 11; fail)
  refine H2.out.mono ?_
  rintro _ W2 ⟨rfl, hM2, -⟩
  have H3 := Lib.hid (hM2.alloc shA)
  clear hM2 H2
  go_wp2_with (go_at_call 12; fail)
  refine H3.out.mono ?_
  rintro _ W3 ⟨rfl, own3, hM3, -⟩
  have H4 := Lib.hid (hM3.alloc shB)
  clear hM3 H3
  go_wp2_with (go_at_call 12; fail)
  refine H4.out.mono ?_
  rintro _ W4 ⟨rfl, own4, hM4, -⟩
  have H5 := Lib.hid (hM4.free (at_ := 24) (by decide) (by decide) knA)
  clear hM4 H4
  go_wp2_with (go_at_call 11; fail)
  refine H5.out.mono ?_
  rintro _ W5 ⟨rfl, hM5, -⟩
  have H6 := Lib.hid (hM5.free (at_ := 24) (by decide) (by decide) knB)
  clear hM5 H5
  go_wp2_with (go_at_call 11; fail)
  refine H6.out.mono ?_
  rintro _ W6 ⟨rfl, hM6, -⟩
  have H7 := Lib.hid (hM6.free (at_ := 48) (by decide) (by decide) knC)
  clear hM6 H6
  go_wp2_with (go_at_call 11; fail)
  refine H7.out.mono ?_
  rintro _ W7 ⟨rfl, hM7, -⟩
  have H8 := Lib.hid (hM7.free (at_ := 1) (by decide) (by decide) knD)
  clear hM7 H7
  go_wp2_with (go_at_call 11; fail)
  refine H8.out.mono ?_
  rintro _ W8 ⟨rfl, hM8, -⟩
  have H9 := Lib.hid (hM8.owner (at_ := 90) (by decide) (by decide) knO1)
  clear hM8 H8
  go_wp2_with (go_at_call 13; fail)
  refine H9.out.mono ?_
  rintro _ W9 ⟨rfl, hM9, -⟩
  simp only [ownerV]
  have H10 := Lib.hid (hM9.owner (at_ := 30) (by decide) (by decide) knO2)
  clear hM9 H9
  go_wp2_with (go_at_call 13; fail)
  refine H10.out.mono ?_
  rintro _ W10 ⟨rfl, hM10, -⟩
  simp only [ownerV]
  have H11 := Lib.hid (hM10.owner (at_ := 50) (by decide) (by decide) knO3)
  clear hM10 H10
  go_wp2_with (go_at_call 13; fail)
  refine H11.out.mono ?_
  rintro _ W11 ⟨rfl, hM11, -⟩
  simp only [ownerV]
  have H12 := Lib.hid (hM11.free (at_ := 64) (by decide) (by decide) knE)
  clear hM11 H11
  go_wp2_with (go_at_call 11; fail)
  refine H12.out.mono ?_
  rintro _ W12 ⟨rfl, hM12, -⟩
  have H13 := Lib.hid (hM12.free (at_ := 88) (by decide) (by decide) knF)
  clear hM12 H12
  go_wp2_with (go_at_call 11; fail)
  refine H13.out.mono ?_
  rintro _ W13 ⟨rfl, hM13, -⟩
  have H14 := Lib.hid hM13.slabs
  clear hM13 H13
  go_wp2_with (go_at_call 14; fail)
  refine H14.out.mono ?_
  rintro _ W14 ⟨⟨A, cp, rfl, hr⟩, hM, -⟩
  obtain ⟨g, rfl⟩ := row_some hr (by decide)
  have hr0 := row_at hr (i := 0) (v := .int .i64 0) (by rw [kn_view]; rfl)
  have hr1 := row_at hr (i := 1) (v := .int .i64 1) (by rw [kn_view]; rfl)
  have hgl := (row_capsA hr).2.2.1
  have HB := Lib.hid (And.intro hM.below (And.intro hr0 (And.intro hr1 hgl)))
  have hcp := (row_capsA hr).1
  have hcp2 := (row_capsA hr).2.1
  have HN := Lib.hid (newL_ok W14 3 (by decide))
  clear hM hr hr0 hr1 hgl H14
  have hln : kn3.length = 1 := rfl
  rw [show ({ size := 24, order := 0, keep := 0, sl := kn3 } : Ca).sl.length = 1 from rfl] at hcp
  go_wp2_with (go_at_call 15; fail)
  refine HN.out.mono ?_
  rintro _ W15 ⟨rfl, hB, hb⟩
  have HN2 := Lib.hid (Mine.bad (size := 12) (order := 0) (keep := 0) hB kn12)
  have HB2 := Lib.hid (And.intro hB hb)
  clear hB hb HN
  go_wp2_with (go_at_call 16; fail)
  refine HN2.out.mono ?_
  rintro _ W16 ⟨rfl, hb⟩
  have hB := HB2.out.1.keep (hb.block _ HB2.out.1.lt)
  have HN3 := Lib.hid (Mine.bad (size := 72) (order := 0) (keep := 0) hB kn72)
  have HB3 := Lib.hid hb
  clear hB hb HN2
  go_wp2_with (go_at_call 16; fail)
  refine HN3.out.mono ?_
  rintro _ W17 ⟨rfl, hb⟩
  have hbb : Below W14.heap.size W14 W17 := by
    have h1 := HB2.out.2
    have h2 := HB3.out.mono h1.size
    have h3 := hb.mono (Nat.le_trans h1.size HB3.out.size)
    exact (h1.trans h2).trans h3
  have r0 : W17.cell? ⟨g, 0, none⟩ = some (.int .i64 0) := (hbb.cell (p := ⟨g, 0, none⟩) HB.out.2.2.2).trans HB.out.2.1
  have r1 : W17.cell? ⟨g, 1, none⟩ = some (.int .i64 1) := (hbb.cell (p := ⟨g, 1, none⟩) HB.out.2.2.2).trans HB.out.2.2.1
  have HS := Lib.hid (shown_ok W17)
  have HB4 := Lib.hid hbb
  clear hb hbb HN3
  go_wp2_with (go_at_call 17; fail)
  refine HS.out.mono ?_
  rintro _ W18 ⟨rfl, hb⟩
  have h0 := HB.out.1
  have hf := (h0.trans (HB4.out.mono h0.size)).trans (hb.mono (Nat.le_trans h0.size HB4.out.size))
  have HF := Lib.hid hf
  clear hf h0 hb
  go_wp2
  go_ret
  exact ⟨rfl, HF.out⟩
end Sl
end Go.Proofs.Ytlknhbcambdccaa
namespace Go.Proofs.Ytlknhbcambdccaa
namespace Bu
open Go.ChangeShapes Go.WideShapes Go.ChangeAt Go.RowKit Go.Deep Go.Joins
section
variable {H : Type} {enc : TypeId × Value → H} {W : World} {v : Value} {d : DataW H} {p : List MemPlace}
theorem open_blocks2 {fuel : Nat} {cs : List Value} {x : DataW H × List MemPlace} (hf : DataW.trod enc Try.prog W 0 (fun _ => true) true fuel 44 cs = some x) :
    ∃ (A : Option Addr) (c : Nat) (l : List (Int × Int)), cs = [.slice A l.length c] ∧ ZAt W A c l ∧ (A = none → c = 0) := by
  obtain ⟨A, c, l, h1, h2⟩ := open_blocks hf
  refine ⟨A, c, l, h1, h2, ?_⟩
  rintro rfl
  rcases open_slice_fields Try.underlying44 Try.underlying126 (by kernel_rfl) (by kernel_rfl) hf with ⟨hcs, _⟩ | ⟨a, len, cap, m, D, Pl, hcs, _⟩
  · rw [h1] at hcs
    injection hcs with hcs
    injection hcs
  · rw [h1] at hcs
    injection hcs with hcs
    injection hcs with hcs
    cases hcs

set_option maxRecDepth 100000 in
theorem open_state2 {r : Reach} {b0 : Nat} (hv : Value.okWide Try.prog W r b0 46 v) (h : DataW.Trod enc Try.prog W 0 (fun _ => true) true 46 v d p) :
    ∃ (N : Int) (A : Option Addr) (c : Nat) (l : List (Int × Int)), v = sv N A l.length c ∧ ZAt W A c l ∧ (A = none → c = 0) := by
  obtain ⟨v0, v1, y0, y1, n, rfl, t0, t1⟩ := open_agg2f Try.underlying46 (by kernel_rfl) (by kernel_rfl) hv h
  obtain ⟨N, e0, _, _⟩ := DataW.trod_int Try.underlying3 t0
  obtain ⟨A, c, l, e1, hl, hn⟩ := open_blocks2 t1
  simp only [List.cons.injEq, and_true] at e0 e1
  subst e0 e1
  exact ⟨N, A, c, l, rfl, hl, hn⟩
end
end Bu
end Go.Proofs.Ytlknhbcambdccaa
namespace Go.Proofs.Ytlknhbcambdccaa
open Go.RowKit
namespace Bu

set_option maxRecDepth 100000 in
theorem run_append_blk (w : World) (ty : TypeId) (base : Nat) (v : Value) (X : List Blk) (hown : w.ownsRow base 126 2 v X.length (cellsL X))
    (A : Option Addr) (c : Nat) (M : List Blk) (hM : BlkAt w A c M) (hn : A = none → c = 0) (hlen : X.length + M.length ≤ 100000) (hbase : base ≤ w.heap.size) :
    ∃ A' c' w', (Builtin.append_ #[44, 44] ty #[v, .slice A M.length c]).run Try.prog w = .ok (.slice A' (X ++ M).length c') w' ∧ Own w' base A' c' (X ++ M) ∧ w.grownBy w' v.ownBlock := by
  obtain ⟨i0, z0, hi0, hz0, hz1, hz2, hz3⟩ := info_open block_info
  have hcl : cellsL (X ++ M) = cellsL X ++ cellsL M := by simp [cellsL]
  cases A with
  | none =>
    obtain rfl := hn rfl
    have hM0 : M = [] := List.length_eq_zero_iff.1 (by have := hM.len.1; omega)
    subst hM0
    have hrun := run_append_owned_none (P := Try.prog) (w := w) base 44 ty 126 i0 2 Try.underlying44 hi0 v X.length (cellsL X) hown
    obtain ⟨A', c', rfl⟩ := own_value hown
    rw [List.append_nil]
    exact ⟨A', c', w, hrun, hown, grown_refl _ _⟩
  | some ad =>
    obtain ⟨v', w', hr, h2, h3, _⟩ := run_append_own (P := Try.prog) w base 44 ty 126 i0 z0 2 16 Try.underlying44 hi0 hz0 hz1 hz2 hz3 (by omega) v X.length (cellsL X) hown ad M.length c (cellsL M) (cellsL_len M) (blk_addr hM) (cellsL_one M) (by unfold maxLen; omega) (by omega) hbase
    rw [← List.length_append, ← hcl] at h2
    obtain ⟨A', c', rfl⟩ := own_value h2
    exact ⟨A', c', w', hr, h2, h3⟩

theorem step_append_blk {w : World} {ops : Array Oper} {o : Oper} {a : Act} {K : Act → World → Prop} {Q : Exit → Act → World → Prop} {E : Prop} (hgd : o.guard = none) (s x : Operand)
    (ho : o.op = .call { callee := .builtin .append, args := #[s, x], argTypes := #[44, 44] })
    (base : Nat) (v : Value) (X : List Blk) (hs : a.eval s = v) (hown : w.ownsRow base 126 2 v X.length (cellsL X))
    (A : Option Addr) (c : Nat) (M : List Blk) (hx : a.eval x = .slice A M.length c) (hM : BlkAt w A c M) (hn : A = none → c = 0) (hlen : X.length + M.length ≤ 100000) (hbase : base ≤ w.heap.size)
    (h : ∀ A' c' w', Own w' base A' c' (X ++ M) → w.grownBy w' v.ownBlock → K (a.put o.dst (.slice A' (X ++ M).length c')) w') :
    if Region.wanted o (yielded ops a.tmps) = true then Oper.wp Try.prog o a w K Q else E := by
  have hw : Region.wanted o (yielded ops a.tmps) = true := by simp [Region.wanted, hgd]
  rw [if_pos hw]
  obtain ⟨A', c', w', hrun, h1, h2⟩ := run_append_blk w o.type base v X hown A c M hM hn hlen hbase
  unfold Oper.wp
  simp only [execOp, ho, resolve, invoke, builtin, Sem.run_bind, Sem.run_pure, Result.andThen_ok, List.map_toArray, List.map_cons, List.map_nil, hs, hx, hrun]
  exact h A' c' w' h1 h2

/-- A part of a slice. -/
theorem blk_drop {w : World} {g o c k : Nat} {M : List Blk} (h : BlkAt w (some ⟨g, o, none⟩) c M) (hk : k ≤ M.length) : BlkAt w (some ⟨g, o + k * 2, none⟩) (c - k) (M.drop k) := by
  obtain ⟨h1, h2⟩ := h.len
  refine ⟨by simp; omega, by omega, fun j z hz => ?_⟩
  rw [List.getElem?_map, List.getElem?_drop, Option.map_eq_some_iff] at hz
  obtain ⟨x, hx, rfl⟩ := hz
  obtain ⟨g', o', hA, hg, d1, d2⟩ := h.at hx
  injection hA with hA; injection hA with e1 e2
  subst e1; subst e2
  have e : o + (k + j) * 2 = o + k * 2 + j * 2 := by omega
  rw [e] at d1 d2
  exact ⟨g, o + k * 2, rfl, hg, d1, d2⟩
theorem blk_take {w : World} {A : Option Addr} {c k : Nat} {M : List Blk} (h : BlkAt w A c M) : BlkAt w A c (M.take k) := by
  obtain ⟨h1, h2⟩ := h.len
  refine ⟨by simp; omega, by omega, fun j z hz => ?_⟩
  rw [List.getElem?_map, Option.map_eq_some_iff] at hz
  obtain ⟨x, hx, rfl⟩ := hz
  rw [List.getElem?_take] at hx
  split at hx
  · exact h.at hx
  · cases hx

theorem own_some {w : World} {B c : Nat} {A : Option Addr} {M : List Blk} (h : Own w B A c M) (hp : 0 < M.length) : ∃ g, A = some ⟨g, 0, none⟩ ∧ B ≤ g ∧ g < w.heap.size := by
  rcases h.2 with ⟨_, h0⟩ | ⟨g, cap, cur, hv, hB, hg, _⟩
  · omega
  · injection hv with h1 h2 h3
    exact ⟨g, h1, hB, lt_of_heap hg⟩

theorem own_low {w : World} {B B' c : Nat} {A : Option Addr} {M : List Blk} (h : Own w B A c M) (hB : B' ≤ B) : Own w B' A c M := by
  refine ⟨h.1, ?_⟩
  rcases h.2 with hn | ⟨g, cap, cur, hv, hb, r⟩
  · exact .inl hn
  · exact .inr ⟨g, cap, cur, hv, by omega, r⟩
theorem blk_lit1 (w : World) (a b : Nat) : BlkAt (w.alloc (.cells #[.int .i64 (a : Int), .int .i64 (b : Int)] 126)) (some ⟨w.heap.size, 0, none⟩) 1 [(a, b)] := by
  have h : (w.alloc (.cells #[.int .i64 (a : Int), .int .i64 (b : Int)] 126)).heap[w.heap.size]? = some (.cells #[.int .i64 (a : Int), .int .i64 (b : Int)] 126 (0, 0)) := by rw [heapAlloc, if_pos rfl]
  refine ⟨Nat.le_refl _, by unfold maxLen; omega, fun j x hx => ⟨w.heap.size, 0, rfl, by simp, ?_⟩⟩
  rw [cell_of_row _ _ _ _ _ _ h, cell_of_row _ _ _ _ _ _ h]
  match j, hx with
  | 0, hx => injection hx with hx; subst hx; exact ⟨rfl, rfl⟩
  | j + 1, hx => simp at hx

def lenOf : Value → Nat
  | .slice _ n _ => n
  | _ => 0

/-! Freed one by one. -/
theorem asc_nodup {L : List Blk} (h : L.Pairwise fun a b => a.1 + 2 ^ a.2 ≤ b.1) : L.Nodup :=
  h.imp fun {a b} hab e => by subst e; have := pow_pos2 a.2; omega
theorem filter_ne_self {x : Blk} : ∀ {L : List Blk}, x ∉ L → (L.filter fun y => y != x) = L := fun {L} h => List.filter_eq_self.2 fun y hy => by rw [bne_iff_ne]; intro e; exact h (e ▸ hy)
theorem delB_at {N : Nat} {M : List Blk} (hS : St N M) {k : Nat} {x : Blk} (hx : M[k]? = some x) : delB M x = M.take k ++ M.drop (k + 1) := by
  obtain ⟨hk, he⟩ := List.getElem?_eq_some_iff.1 hx
  have hnd := asc_nodup hS.asc
  have hM : M = M.take k ++ x :: M.drop (k + 1) := by
    have := List.take_append_drop k M
    rw [List.drop_eq_getElem_cons hk, he] at this
    exact this.symm
  have hnd2 : (M.take k ++ x :: M.drop (k + 1)).Nodup := by rw [← hM]; exact hnd
  rw [List.nodup_append] at hnd2
  obtain ⟨n1, n2, n3⟩ := hnd2
  rw [List.nodup_cons] at n2
  have h1 : x ∉ M.take k := fun h => n3 x h x (List.mem_cons_self ..) rfl
  unfold delB
  conv => lhs; rw [hM]
  rw [List.filter_append, List.filter_cons, filter_ne_self h1, filter_ne_self n2.1]
  simp
theorem blocks_none (N : Nat) (hN : N ≤ 10) : blocksB N [] = [(0, N)] := by
  have hS := st_nil hN
  refine asc_eq (asc_lt (blocks_asc hS)) (by simp) fun x => ?_
  have hfree : ∀ (k i : Nat), Free (LG []) k i := fun k i z _ ⟨j, hj⟩ => by unfold LG at hj; cases hj
  rw [mem_blocks hS, List.mem_singleton]
  constructor
  · rintro ⟨h1, h2, h3, h4, h5⟩
    obtain ⟨p, n⟩ := x
    dsimp only at h1 h2 h3 h4 h5
    have hn : n = N := h5.resolve_right fun h => h (hfree _ _)
    subst hn
    rw [Nat.sub_self] at h3
    have := mul_div h1
    have h3 : p / 2 ^ n = 0 := by simpa using h3
    rw [h3, Nat.zero_mul] at this
    rw [← this]
  · rintro rfl
    exact ⟨by simp, Nat.le_refl _, by simp, hfree _ _, .inl rfl⟩
theorem put_del {N n p : Nat} {L L' : List Blk} (hS : St N L) (ha : allocB N L n = some (p, L')) : (p, n) ∈ L' ∧ InB N (p, n) ∧ delB L' (p, n) = L := by
  obtain ⟨j, k, hj, hnk, hin, hf, hnN, _⟩ := alloc_found hS ha
  have hL' : L' = putB L (p, n) := by
    unfold allocB at ha
    cases e : bestOf n none (blocksB N L) with
    | none => rw [e] at ha; simp at ha
    | some x =>
      rw [e, Option.map_some, Option.some.injEq, Prod.mk.injEq] at ha
      rw [← ha.2, ← ha.1]
  subst hL'
  have hS' := alloc_st hS ha
  refine ⟨mem_putB.2 (.inl rfl), hin, ?_⟩
  have hfr := (freeB_iff hS.inb hin.2.1).1 hf
  have hni : (p, n) ∉ L := fun hm => by
    rcases disj_of hS.inb hin hfr hm with h | h <;> (have := pow_pos2 n; simp only at h; omega)
  refine asc_eq (asc_lt hS'.del.asc) (asc_lt hS.asc) fun z => ?_
  rw [mem_delB, mem_putB]
  constructor
  · rintro ⟨h1 | h1, h2⟩
    · exact absurd h1 h2
    · exact h1
  · intro h
    exact ⟨.inr h, fun e => hni (e ▸ h)⟩

/-! Numbers of 16 bits. -/
def U16At (w : World) (A : Option Addr) (c : Nat) (T : List Nat) : Prop :=
  T.length ≤ c ∧ c ≤ maxLen ∧ ∀ (j x : Nat), T[j]? = some x → ∃ g o, A = some ⟨g, o, none⟩ ∧ g < w.heap.size ∧ w.cell? ⟨g, o + j, none⟩ = some (.int .u16 (x : Int)) ∧ x < 65536
section
variable {H : Type} {enc : TypeId × Value → H} {W : World} {v : Value} {d : DataW H} {p : List MemPlace}
open Go.ChangeShapes Go.WideShapes Go.ChangeAt Go.RowKit Go.Deep Go.Joins
end
end Bu
end Go.Proofs.Ytlknhbcambdccaa
namespace Go.Proofs.Ytlknhbcambdccaa
open Go.RowKit
namespace Sl
open Bu

/-- A slice of addresses that lies somewhere. -/
structure I64At (w : World) (A : Option Addr) (c : Nat) (M : List Nat) : Prop where
  len : M.length ≤ c
  cap : c ≤ maxLen
  at_ : ∀ (j x : Nat), M[j]? = some x → ∃ g o, A = some ⟨g, o, none⟩ ∧ g < w.heap.size ∧ w.cell? ⟨g, o + j, none⟩ = some (.int .i64 (x : Int))
abbrev Own64 (w : World) (B : Nat) (A : Option Addr) (c : Nat) (M : List Nat) : Prop := w.ownsRow B 2 1 (.slice A M.length c) M.length (n64 M)

theorem n64_len (M : List Nat) : (n64 M).length = M.length := List.length_map _
theorem n64_get {M : List Nat} {j x : Nat} (h : M[j]? = some x) : (n64 M)[j]? = some (.int .i64 (x : Int)) := by unfold n64; rw [List.getElem?_map, h]; rfl
theorem own64_at {w : World} {B c : Nat} {A : Option Addr} {M : List Nat} (h : Own64 w B A c M) : I64At w A c M := by
  rcases h.2 with ⟨hv, h0⟩ | ⟨g, cp, cur, hv, _, hg, h1, h2, _⟩
  · injection hv with e1 e2 e3
    refine ⟨by omega, by unfold maxLen; omega, fun j x hx => ?_⟩
    have := (List.getElem?_eq_some_iff.1 hx).1; omega
  · injection hv with e1 e2 e3
    subst e1; subst e3
    exact ⟨h1, h2, fun j x hx => ⟨g, 0, rfl, lt_of_heap hg, by rw [Nat.zero_add]; exact row_at h (n64_get hx)⟩⟩
theorem I64At.below {w w' : World} {A : Option Addr} {c : Nat} {M : List Nat} (h : I64At w A c M) (hb : Below w.heap.size w w') : I64At w' A c M :=
  ⟨h.len, h.cap, fun j x hx => by
    obtain ⟨g, o, h1, h2, h3⟩ := h.at_ j x hx
    exact ⟨g, o, h1, Nat.lt_of_lt_of_le h2 hb.size, (hb.cell (p := ⟨g, o + j, none⟩) h2).trans h3⟩⟩
theorem I64At.take {w : World} {A : Option Addr} {c k : Nat} {M : List Nat} (h : I64At w A c M) : I64At w A c (M.take k) :=
  ⟨by have := h.len; simp; omega, h.cap, fun j x hx => by
    rw [List.getElem?_take] at hx
    split at hx
    · exact h.at_ j x hx
    · cases hx⟩
theorem I64At.drop {w : World} {g o c k : Nat} {M : List Nat} (h : I64At w (some ⟨g, o, none⟩) c M) (hk : k ≤ M.length) : I64At w (some ⟨g, o + k, none⟩) (c - k) (M.drop k) := by
  have h1 := h.len
  have h2 := h.cap
  refine ⟨by simp; omega, by omega, fun j x hx => ?_⟩
  rw [List.getElem?_drop] at hx
  obtain ⟨g', o', hA, hg, d⟩ := h.at_ _ x hx
  injection hA with hA; injection hA with e1 e2
  subst e1; subst e2
  exact ⟨g, o + k, rfl, hg, by rw [Nat.add_assoc]; exact d⟩

theorem i64_addr {w : World} {A : Option Addr} {ad : Addr} {c : Nat} {M : List Nat} (h : I64At w A c M) (hA : A = some ad) : ∀ j u, (n64 M)[j]? = some u → w.cell? (ad.add j) = some u := by
  intro j u hu
  have hj : j < M.length := by have := (List.getElem?_eq_some_iff.1 hu).1; rwa [n64_len] at this
  obtain ⟨x, hx⟩ : ∃ x, M[j]? = some x := ⟨_, List.getElem?_eq_getElem hj⟩
  rw [n64_get hx] at hu
  injection hu with hu
  obtain ⟨g, o, h1, _, h3⟩ := h.at_ j x hx
  rw [hA] at h1
  injection h1 with h1
  rw [h1, ← hu]
  have e : (⟨g, o, none⟩ : Addr).add j = ⟨g, o + j, none⟩ := by simp [Addr.add]
  rw [e]
  exact h3

set_option maxRecDepth 100000 in
theorem run_append_i64 (w : World) (ty : TypeId) (base : Nat) (v : Value) (X : List Nat) (hown : w.ownsRow base 2 1 v X.length (n64 X))
    (A : Option Addr) (c : Nat) (M : List Nat) (hM : I64At w A c M) (hn : A = none → c = 0) (hlen : X.length + M.length ≤ 1000000) (hbase : base ≤ w.heap.size) :
    ∃ A' c' w', (Builtin.append_ #[48, 48] ty #[v, .slice A M.length c]).run Try.prog w = .ok (.slice A' (X ++ M).length c') w' ∧ Own64 w' base A' c' (X ++ M) ∧ w.grownBy w' v.ownBlock := by
  obtain ⟨i0, z0, hi0, hz0, hz1, hz2, hz3⟩ := info_open i64_info
  have hcl : n64 (X ++ M) = n64 X ++ n64 M := by simp [n64]
  cases A with
  | none =>
    obtain rfl := hn rfl
    have hM0 : M = [] := List.length_eq_zero_iff.1 (by have := hM.len; omega)
    subst hM0
    have hrun := run_append_owned_none (P := Try.prog) (w := w) base 48 ty 2 i0 1 Try.underlying48 hi0 v X.length (n64 X) hown
    obtain ⟨A', c', rfl⟩ := own_row hown
    rw [List.append_nil]
    exact ⟨A', c', w, hrun, hown, grown_refl _ _⟩
  | some ad =>
    obtain ⟨v', w', hr, h2, h3, _⟩ := run_append_own (P := Try.prog) w base 48 ty 2 i0 z0 1 8 Try.underlying48 hi0 hz0 hz1 hz2 hz3 (by omega) v X.length (n64 X) hown ad M.length c (n64 M) (by rw [n64_len]; omega) (i64_addr hM rfl) (fun u hu => by
      unfold n64 at hu
      obtain ⟨x, _, rfl⟩ := List.mem_map.1 hu
      rfl) (by unfold maxLen; omega) (by omega) hbase
    rw [← List.length_append, ← hcl] at h2
    obtain ⟨A', c', rfl⟩ := own_row h2
    exact ⟨A', c', w', hr, h2, h3⟩

theorem step_append_i64 {w : World} {ops : Array Oper} {o : Oper} {a : Act} {K : Act → World → Prop} {Q : Exit → Act → World → Prop} {E : Prop} (hgd : o.guard = none) (s x : Operand)
    (ho : o.op = .call { callee := .builtin .append, args := #[s, x], argTypes := #[48, 48] })
    (base : Nat) (v : Value) (X : List Nat) (hs : a.eval s = v) (hown : w.ownsRow base 2 1 v X.length (n64 X))
    (A : Option Addr) (c : Nat) (M : List Nat) (hx : a.eval x = .slice A M.length c) (hM : I64At w A c M) (hn : A = none → c = 0) (hlen : X.length + M.length ≤ 1000000) (hbase : base ≤ w.heap.size)
    (h : ∀ A' c' w', Own64 w' base A' c' (X ++ M) → w.grownBy w' v.ownBlock → K (a.put o.dst (.slice A' (X ++ M).length c')) w') :
    if Region.wanted o (yielded ops a.tmps) = true then Oper.wp Try.prog o a w K Q else E := by
  have hw : Region.wanted o (yielded ops a.tmps) = true := by simp [Region.wanted, hgd]
  rw [if_pos hw]
  obtain ⟨A', c', w', hrun, h1, h2⟩ := run_append_i64 w o.type base v X hown A c M hM hn hlen hbase
  unfold Oper.wp
  simp only [execOp, ho, resolve, invoke, builtin, Sem.run_bind, Sem.run_pure, Result.andThen_ok, List.map_toArray, List.map_cons, List.map_nil, hs, hx, hrun]
  exact h A' c' w' h1 h2

theorem row_empty64 (w : World) (B : Nat) (hB : B ≤ w.heap.size) : ((w.alloc (.cells #[] 2)).drew).ownsRow B 2 1 (.slice (some ⟨w.heap.size, 0, none⟩) 0 0) 0 (n64 []) := by
  refine ⟨rfl, .inr ⟨w.heap.size, 0, #[], rfl, hB, ?_, Nat.le_refl _, by unfold maxLen; omega, rfl, rfl⟩⟩
  show (w.alloc _).heap[w.heap.size]? = _
  rw [heapAlloc, if_pos rfl]

theorem own64_some {w : World} {B c : Nat} {A : Option Addr} {M : List Nat} (h : Own64 w B A c M) (hp : 0 < M.length) : ∃ g, A = some ⟨g, 0, none⟩ ∧ B ≤ g ∧ g < w.heap.size := by
  rcases h.2 with ⟨_, h0⟩ | ⟨g, cap, cur, hv, hB, hg, _⟩
  · omega
  · injection hv with h1 h2 h3
    exact ⟨g, h1, hB, lt_of_heap hg⟩
theorem own64_low {w : World} {B B' c : Nat} {A : Option Addr} {M : List Nat} (h : Own64 w B A c M) (hB : B' ≤ B) : Own64 w B' A c M := row_low h hB
end Sl
end Go.Proofs.Ytlknhbcambdccaa
