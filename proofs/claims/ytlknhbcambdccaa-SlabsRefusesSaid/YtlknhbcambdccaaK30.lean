/- New, Load and Save of the reference. address and Objects of the reference. Slabs, Capacity and Save of the reference. Save of the reference. -/
import Derived.Test.YtlknhbcambdccaaK29
import Derived.Deep.RegionHeld3
namespace Go.Proofs.Ytlknhbcambdccaa
open Go.RowKit
namespace Sl
open Bu

/-- Which blocks a new cache of the reference has. -/
def ownQ (r : Nat) (A : Option Addr) (q : List RS) : Own? := fun k => match q.find? (fun x => x.2.1 == k) with
  | some x => some (x.1.pg + 10)
  | none => if k = r then some 0 else if A.map (·.block) = some k then some 2 else none

theorem find_us {q : List RS} (hp : q.Pairwise fun a b => a.2.1 < b.2.1) {x : RS} (hx : x ∈ q) : q.find? (fun y => y.2.1 == x.2.1) = some x := by
  induction q with
  | nil => cases hx
  | cons y q ih =>
    rw [List.pairwise_cons] at hp
    rw [List.find?_cons]
    rcases List.mem_cons.1 hx with rfl | h
    · simp
    · have := hp.1 x h
      rw [show (y.2.1 == x.2.1) = false by rw [beq_eq_false_iff_ne]; omega]
      exact ih hp.2 h

/-- A copy makes a cache of the reference. -/
theorem ref_of {w W : World} {B r : Nat} {Bp : Addr} {s o kp : Nat} {A : Option Addr} {cp : Nat} {q : List RS} (hB : B ≤ w.heap.size) (hu : ∀ (j : Nat) (x : RS), q[j]? = some x → w.ownsRow B 4 1 (.slice (some ⟨x.2.1, 0, none⟩) x.1.us.length x.2.2) x.1.us.length (bcells x.1.us) ∧ A.map (·.block) ≠ some x.2.1)
    (hp : q.Pairwise fun a b => a.2.1 < b.2.1) (hr : OwnR w B A cp q) (hrr : w.heap.size ≤ r) (hb : Below w.heap.size w W)
    (hc : W.heap[r]? = some (.cells #[.pointer (some Bp), .int .i64 (s : Int), .int .i64 (o : Int), .int .i64 (kp : Int), .slice A q.length cp] 133 (0, 0))) :
    RefAt W (ownQ r A q) r Bp s o kp q ∧ Fresh (ownQ r A q) W ∧ ∀ z, z < B → ownQ r A q z = none := by
  have hrl := lt_of_heap hc
  have hbs := hb.size
  have hq : ∀ k, (∀ x ∈ q, x.2.1 ≠ k) → q.find? (fun x => x.2.1 == k) = none := fun k h => by
    rw [List.find?_eq_none]
    intro x hx
    simpa using h x hx
  have hul : ∀ x ∈ q, B ≤ x.2.1 ∧ x.2.1 < w.heap.size ∧ A.map (·.block) ≠ some x.2.1 := fun x hx => by
    obtain ⟨j, hj⟩ := List.mem_iff_getElem?.1 hx
    obtain ⟨h1, h2⟩ := hu j x hj
    have := h1.lt x.2.1 rfl
    exact ⟨this.1, this.2, h2⟩
  obtain ⟨hra, hrb⟩ := hr.at
  refine ⟨⟨?_, ⟨A, cp, hc, hra.keep hbs fun g _ hg => hb.block g hg, fun g hg => ⟨?_, ?_⟩⟩, fun j x hx => ⟨?_, ?_⟩⟩, fun k hk => ?_, fun z hz => ?_⟩
  · unfold ownQ
    rw [hq r fun x hx => by have := hul x hx; omega]
    rw [if_pos rfl]
  · unfold ownQ
    rw [hq g fun x hx e => (hul x hx).2.2 (by rw [e]; exact hg)]
    have := (hrb g hg).2
    show (if g = r then some 0 else if A.map (·.block) = some g then some 2 else none) = some 2
    rw [if_neg (by omega), if_pos hg]
  · have := (hrb g hg).2; omega
  · unfold ownQ
    rw [find_us hp (List.mem_of_getElem? hx)]
  · have h1 := (hu j x hx).1
    exact row_same (row_low h1 (Nat.zero_le _)) fun g hg => by
      have hg : x.2.1 = g := by injection hg
      rw [← hg]; exact hb.block _ (hul x (List.mem_of_getElem? hx)).2.1
  · unfold ownQ at hk
    cases hf : q.find? (fun x => x.2.1 == k) with
    | some x =>
      have h1 := List.find?_some hf
      have h2 := hul x (List.mem_of_find?_eq_some hf)
      have h3 : x.2.1 = k := by simpa using h1
      omega
    | none =>
      rw [hf] at hk
      have hk : (if k = r then some 0 else if A.map (·.block) = some k then some 2 else none) ≠ none := hk
      split at hk
      · omega
      · split at hk
        · next e => have := (hrb k e).2; omega
        · exact absurd rfl hk
  · unfold ownQ
    rw [hq z fun x hx => by have := hul x hx; omega]
    show (if z = r then some 0 else if A.map (·.block) = some z then some 2 else none) = none
    rw [if_neg (by omega), if_neg (fun e => by have := (hrb z e).1; omega)]

/-- What New and Load of the reference leave where all is well. -/
def RNew (w : World) (Bp : Addr) (s o kp : Nat) (sl : List Slb) (e : Ending) (W : World) : Prop :=
  ∃ r own q, e = .returned (.tuple #[.pointer (some ⟨r, 0, none⟩), .int .i64 0]) ∧ q.map (·.1) = sl ∧ RefAt W own r Bp s o kp q ∧ Fresh own W ∧ (∀ z, z < w.heap.size → own z = none) ∧ w.heap.size ≤ r

set_option maxRecDepth 100000 in
set_option maxHeartbeats 2000000 in
theorem newR_yes (w : World) (Bp : Addr) (size order keep : Int) (hs : sizesB size order keep = true) :
    Calls Try.prog 52 #[.pointer (some Bp), .int .i64 size, .int .i64 order, .int .i64 keep] w fun e w' => (∃ s o kp : Nat, size = (s : Int) ∧ order = (o : Int) ∧ keep = (kp : Int) ∧ RNew w Bp s o kp [] e w') ∧ Below w.heap.size w w' := by
  have hS := sizesR_ok w size order keep
  rw [hs] at hS
  have HS := Lib.hid hS
  have hs2 := hs
  unfold sizesB at hs2
  rw [decide_eq_true_eq] at hs2
  have HV := Lib.hid hs2
  clear hs hS hs2
  go_enter Try.func52, Try.ntmps52
  go_wp2_with (go_at_call 67; refine HS.out.mono ?_; rintro e w' ⟨rfl, rfl⟩)
  go_ret2
  obtain ⟨h1, h2, h3, h4, h5, h6, h7, _⟩ := HV.out
  obtain ⟨s, rfl⟩ := Int.eq_ofNat_of_zero_le (show 0 ≤ size by omega)
  obtain ⟨o, rfl⟩ := Int.eq_ofNat_of_zero_le h4
  obtain ⟨kp, rfl⟩ := Int.eq_ofNat_of_zero_le h6
  refine ⟨⟨s, o, kp, rfl, rfl, rfl, w.heap.size, ownQ w.heap.size none [], [], rfl, rfl, ?_⟩, below_box w _⟩
  obtain ⟨g1, g2, g3⟩ := ref_of (w := w) (W := w.alloc (.cells #[.pointer (some Bp), .int .i64 (s : Int), .int .i64 (o : Int), .int .i64 (kp : Int), .slice none 0 0] 133)) (B := w.heap.size) (r := w.heap.size) (Bp := Bp) (s := s) (o := o) (kp := kp) (A := none) (cp := 0) (q := []) (Nat.le_refl _) (fun j x hx => by simp at hx) List.Pairwise.nil (World.ownsRow_nil _ _ _ _) (Nat.le_refl _) (below_box w _) (by rw [heapAlloc, if_pos rfl]; rfl)
  exact ⟨g1, g2, g3, Nat.le_refl _⟩

set_option maxRecDepth 100000 in
set_option maxHeartbeats 2000000 in
theorem newR_no (w : World) (Bp : Addr) (size order keep : Int) (hs : sizesB size order keep = false) :
    Calls Try.prog 52 #[.pointer (some Bp), .int .i64 size, .int .i64 order, .int .i64 keep] w fun e w' => e = .returned (.tuple #[.pointer none, .int .i64 7]) ∧ Below w.heap.size w w' := by
  have hS := sizesR_ok w size order keep
  rw [hs] at hS
  have HS := Lib.hid hS
  clear hs hS
  go_enter Try.func52, Try.ntmps52
  go_wp2_with (go_at_call 67; refine HS.out.mono ?_; rintro e w' ⟨rfl, rfl⟩)
  go_ret2
  exact ⟨rfl, Below.refl _ _⟩

theorem save_load {L : List Blk} {o cap : Nat} {l : List (Int × List Bool)} (h : OkX L o cap l) : saveS (loadS l) = l := by
  unfold saveS loadS
  rw [List.map_map]
  refine List.ext_getElem? fun i => ?_
  rw [List.getElem?_map]
  cases hx : l[i]? with
  | none => rfl
  | some x =>
    have h0 := (h i x hx).1
    show some ((((x.1.toNat : Nat) : Int)), x.2) = some x
    rw [Int.toNat_of_nonneg h0]
/-- The value of a state of an allocator, as one of its fields lies in memory. -/
def StAt (w : World) (Bp : Addr) (N : Nat) (A : Option Addr) (c : Nat) (L : List Blk) : Prop :=
  Bp.block < w.heap.size ∧ w.cell? Bp = some (.int .i64 (N : Int)) ∧ w.cell? (Bp.add 1) = some (.slice A L.length c) ∧ BlkAt w A c L

set_option maxRecDepth 100000 in
set_option maxHeartbeats 4000000 in
theorem loadR_ok (w : World) (b ob : Nat) (N s o kp : Nat) (L : List Blk) (A : Option Addr) (c : Nat) (A2 : Option Addr) (c2 : Nat) (l : List (Int × List Bool)) (hbw : b < w.heap.size) (hB0 : w.cell? ⟨b, ob, none⟩ = some (.int .i64 (N : Int))) (hB1 : w.cell? ⟨b, ob + 1, none⟩ = some (.slice A L.length c)) (hB : BlkAt w A c L) (hS : St N L)
    (hsz : sizesB (s : Int) (o : Int) (kp : Int) = true) (h : SbAt 0 w A2 c2 l) (hl64 : ∀ x ∈ l, -9223372036854775808 ≤ x.1 ∧ x.1 < 9223372036854775808) :
    Calls Try.prog 33 #[.pointer (some ⟨b, ob, none⟩), stv (s : Int) (o : Int) (kp : Int) A2 l.length c2] w fun e w' => ((OkX L o (capa s o) l ∧ emptyS (loadS l) ≤ kp ∧ RNew w ⟨b, ob, none⟩ s o kp (loadS l) e w') ∨ (¬ (OkX L o (capa s o) l ∧ emptyS (loadS l) ≤ kp) ∧ e = .returned (.tuple #[.pointer none, .int .i64 6]))) ∧ Below w.heap.size w w' := by
  have hs2 := hsz
  unfold sizesB at hs2
  rw [decide_eq_true_eq] at hs2
  obtain ⟨h1, h2, h3, h4, h5, h6, h7, h8⟩ := hs2
  obtain ⟨n, hn⟩ : ∃ n, n = l.length := ⟨_, rfl⟩
  obtain ⟨W1, hW1⟩ : ∃ W1, W1 = w.alloc (.cells #[.int .i64 (s : Int), .int .i64 (o : Int), .int .i64 (kp : Int), .slice A2 n c2] 69) := ⟨_, rfl⟩
  have hb1 : Below w.heap.size w W1 := by rw [hW1]; exact below_box w _
  have hx1 : W1.heap[w.heap.size]? = some (.cells #[.int .i64 (s : Int), .int .i64 (o : Int), .int .i64 (kp : Int), .slice A2 n c2] 69 (0, 0)) := by rw [hW1, heapAlloc, if_pos rfl]
  obtain ⟨x0, x1, x2, x3⟩ := four_at hx1
  have hSz := sizesR_ok W1 (s : Int) (o : Int) (kp : Int)
  rw [hsz] at hSz
  have HSz := Lib.hid hSz
  obtain ⟨q0, hq0⟩ : ∃ q, q = L.length := ⟨_, rfl⟩
  have hV := validR_ok (World.drew W1) N s o kp L A c A2 c2 l (by omega) (by omega) ((hB.below hb1).below (below_drew W1 1)) hS ((h.below hb1).below (below_drew W1 1)) hl64
  rw [← hn] at hV ⊢
  rw [← hq0] at hV hB1
  have b0 := (hb1.cell (p := ⟨b, ob, none⟩) hbw).trans hB0
  have b1 := (hb1.cell (p := ⟨b, ob + 1, none⟩) hbw).trans hB1
  have HV := Lib.hid hV
  have HX := Lib.hid (And.intro hb1 (And.intro hx1 (And.intro (h.below hb1) (And.intro hn hsz))))
  have HW := Lib.hid hW1
  have hwW := lt_of_heap hx1
  have hcpp : 1 ≤ capa s o ∧ capa s o ≤ 128 := by
    have h16 : 2 ^ o ≤ 2 ^ 4 := Nat.pow_le_pow_right (by decide) (by omega)
    rw [Int.toNat_natCast] at h8
    unfold capa
    refine ⟨(Nat.one_le_div_iff (by omega)).2 (by omega), ?_⟩
    rw [Nat.div_le_iff_le_mul_add_pred (by omega)]
    have : 64 * 2 ^ o ≤ 64 * 16 := Nat.mul_le_mul_left _ h16
    have : 128 * 8 ≤ s * 128 := by omega
    omega
  have HS := Lib.hid (And.intro hS hcpp)
  clear hcpp h8
  clear hsz hSz hb1 hx1 hV hW1 hB0 hB1 hB hS hl64 h hn hq0
  go_enter Try.func33, Try.ntmps33
  go_wp2_with (fail)
  rw [← HW.out]
  go_wp2_with (go_at_call 67; refine HSz.out.mono ?_; rintro e w' ⟨rfl, rfl⟩)
  go_region_held3 (fun w' => w'.cell? ⟨b, ob, none⟩ = some (.int .i64 (N : Int)) ∧ w'.cell? ⟨b, ob + 1, none⟩ = some (.slice A q0 c) ∧ w'.cell? ⟨w.heap.size, 0, none⟩ = some (.int .i64 (s : Int)) ∧ w'.cell? ⟨w.heap.size, 1, none⟩ = some (.int .i64 (o : Int)) ∧ w'.cell? ⟨w.heap.size, 2, none⟩ = some (.int .i64 (kp : Int)) ∧ w'.cell? ⟨w.heap.size, 3, none⟩ = some (.slice A2 n c2)) (first | exact ⟨b0, b1, x0, x1, x2, x3⟩ | exact ⟨d0, d1, y0, y1, y2, y3⟩) (first
    | (go_at_call 68; refine HV.out.mono ?_; rintro _ W8 ⟨⟨bv, rfl, hbv⟩, hb8⟩; have d0 := cell_keep2 hb8 b0; have d1 := cell_keep2 hb8 b1; have y0 := cell_keep2 hb8 x0; have y1 := cell_keep2 hb8 x1; have y2 := cell_keep2 hb8 x2; have y3 := cell_keep2 hb8 x3; have H8 := Lib.hid (And.intro hbv hb8); clear hbv hb8))
  cases bv with
  | false =>
    go_wp2_with (fail)
    go_ret2
    exact ⟨.inr ⟨(fun h => by have := H8.out.1.2 h; cases this), rfl⟩, below_step' HX.out.1 H8.out.2 (Nat.le_refl _)⟩
  | true =>
    have hv := H8.out.1.1 rfl
    have hb8 : Below W1.heap.size W1 W8 := ⟨H8.out.2.os, H8.out.2.tape, H8.out.2.output, H8.out.2.size, H8.out.2.block⟩
    have hsl := save_load hv.1
    have hln : (loadS l).length = n := by unfold loadS; rw [List.length_map]; exact HX.out.2.2.2.1.symm
    have hl2 := okX_len HS.out.1 hv.1
    have hcp := copied_ok W8 (s : Int) (o : Int) (kp : Int) A2 c2 (loadS l) (by rw [hsl]; exact HX.out.2.2.1.below hb8) (fun x hx => by
      obtain ⟨i, hi⟩ := List.mem_iff_getElem?.1 hx
      obtain ⟨y, hy, rfl⟩ := loadS_get hi
      have := (hv.1 i y hy).2.2.2
      have h2 := HS.out.2
      show 1 ≤ y.2.length ∧ y.2.length ≤ 1000
      omega) (by have := HX.out.2.2.2.1; omega)
    rw [hln] at hcp
    have HC := Lib.hid hcp
    have HY := Lib.hid (And.intro hv (And.intro hb8 hln))
    clear hv hb8 hsl hln hl2 hcp
    go_wp2_with (go_at_call 69; fail)
    refine HC.out.mono ?_
    rintro _ W9 ⟨hcr, hb9⟩
    obtain ⟨A9, cp9, q, rfl, hq, hu, hpw, hr⟩ := hcr
    have H9 := Lib.hid (And.intro hq (And.intro hu (And.intro hpw (And.intro hr hb9))))
    clear hq hu hpw hr hb9
    go_wp2_with (fail)
    go_ret2
    obtain ⟨hq, hu, hpw, hr, hb9⟩ := H9.out
    obtain ⟨hv, hb8, hln⟩ := HY.out
    have hb18 := below_step HX.out.1 hb8 (Nat.le_refl _)
    have hb19 := below_step hb18 hb9 (Nat.le_refl _)
    have hqn : q.length = (loadS l).length := by rw [← hq, List.length_map]
    obtain ⟨g1, g2, g3⟩ := ref_of (w := W9) (W := W9.alloc (.cells #[.pointer (some ⟨b, ob, none⟩), .int .i64 (s : Int), .int .i64 (o : Int), .int .i64 (kp : Int), .slice A9 (loadS l).length cp9] 133)) (B := W8.heap.size) (r := W9.heap.size) (Bp := ⟨b, ob, none⟩) (s := s) (o := o) (kp := kp) (A := A9) (cp := cp9) (q := q) hb9.size hu hpw hr (Nat.le_refl _) (below_box W9 _) (by rw [heapAlloc, if_pos rfl, hqn])
    exact ⟨.inl ⟨hv.1, hv.2, W9.heap.size, _, q, rfl, hq, g1, g2, fun z hz => g3 z (by have := hb18.size; omega), by have := hb19.size; omega⟩, below_step hb19 (below_box W9 _) (Nat.le_refl _)⟩
end Sl
end Go.Proofs.Ytlknhbcambdccaa
namespace Go.Proofs.Ytlknhbcambdccaa
open Go.RowKit
namespace Sl
open Bu

/-- What a cache of the reference is. -/
abbrev refC (s o kp : Nat) (q : List RS) : Ca := ⟨s, o, kp, q.map (·.1)⟩

theorem ok_bounds {C : Ca} {N : Nat} {L : List Blk} (H : CaOk C N L) {x : Slb} (hx : x ∈ C.sl) : x.pg < 1024 ∧ x.us.length ≤ 128 ∧ 1 ≤ x.us.length := by
  have h2 := st_le H.st _ (H.giv x hx)
  have h3 : x.pg + 2 ^ C.order ≤ 1024 := h2.2
  have := pow_pos2 C.order
  have hc := capa_pos H
  have hl := H.len x hx
  omega

theorem ref_row {w : World} {own : Own?} {r : Nat} {Bp : Addr} {s o kp : Nat} {q : List RS} (h : RefAt w own r Bp s o kp q) {j : Nat} {x : RS} (hx : q[j]? = some x) :
    ∃ g oo cap, w.heap[r]? = some (.cells #[.pointer (some Bp), .int .i64 (s : Int), .int .i64 (o : Int), .int .i64 (kp : Int), .slice (some ⟨g, oo, none⟩) q.length cap] 133 (0, 0)) ∧ q.length ≤ cap ∧ cap ≤ maxLen ∧ g < w.heap.size ∧ w.cell? ⟨g, oo + j * 2, none⟩ = some (.int .i64 (x.1.pg : Int)) ∧ w.cell? ⟨g, oo + j * 2 + 1, none⟩ = some (.slice (some ⟨x.2.1, 0, none⟩) x.1.us.length x.2.2) := by
  obtain ⟨A, cap, h1, h2, h3⟩ := h.cell
  obtain ⟨g, oo, rfl, hg, d0, d1⟩ := h2.at_ j x hx
  exact ⟨g, oo, cap, h1, h2.len, h2.cap, hg, d0, d1⟩
theorem five_cells {w : World} {R : Nat} {x0 x1 x2 x3 x4 : Value} {T : TypeId} (h : w.heap[R]? = some (.cells #[x0, x1, x2, x3, x4] T (0, 0))) :
    w.cell? ⟨R, 0, none⟩ = some x0 ∧ w.cell? ⟨R, 1, none⟩ = some x1 ∧ w.cell? ⟨R, 2, none⟩ = some x2 ∧ w.cell? ⟨R, 3, none⟩ = some x3 ∧ w.cell? ⟨R, 4, none⟩ = some x4 ∧ w.frozen? ⟨R, 4, none⟩ = false :=
  ⟨by rw [cell_of_row _ _ _ _ _ _ h]; rfl, by rw [cell_of_row _ _ _ _ _ _ h]; rfl, by rw [cell_of_row _ _ _ _ _ _ h]; rfl, by rw [cell_of_row _ _ _ _ _ _ h]; rfl, by rw [cell_of_row _ _ _ _ _ _ h]; rfl, by simp [World.frozen?, h]⟩

set_option maxRecDepth 100000 in
set_option maxHeartbeats 2000000 in
theorem addressR_ok (w : World) (own : Own?) (r : Nat) (Bp : Addr) (s o kp : Nat) (q : List RS) (h : RefAt w own r Bp s o kp q) (j i : Nat) (x : RS) (hx : q[j]? = some x) (hpg : x.1.pg ≤ 1024) (hi : i ≤ 1024) (hs : s ≤ 1024) :
    Calls Try.prog 79 #[.pointer (some ⟨r, 0, none⟩), .int .i64 (j : Int), .int .i64 (i : Int)] w fun e w' => e = .returned (.int .i64 ((addrS s x.1 i : Nat) : Int)) ∧ ∃ n, w' = w.drewN n := by
  obtain ⟨g, oo, cap, hc, h1, h2, hg, d0, _⟩ := ref_row h hx
  obtain ⟨_, c1, _, _, c4, _⟩ := five_cells hc
  have hj := (List.getElem?_eq_some_iff.1 hx).1
  unfold maxLen at h2
  obtain ⟨n, hn⟩ : ∃ n, n = q.length := ⟨_, rfl⟩
  obtain ⟨p, hp⟩ : ∃ p, p = x.1.pg := ⟨_, rfl⟩
  have ha : addrS s x.1 i = 64 * p + i * s := by unfold addrS; rw [hp]
  rw [← hn] at c4 hj h1
  rw [← hp] at d0 hpg
  have hm : i * s ≤ 1024 * 1024 := Nat.mul_le_mul hi hs
  have w1 : IntKind.i64.wrap (64 * (p : Int)) = ((64 * p : Nat) : Int) := by rw [IntWalk.i64_in _ (by omega)]; push_cast; rfl
  have w2 : IntKind.i64.wrap ((i : Int) * (s : Int)) = ((i * s : Nat) : Int) := by
    have e : (i : Int) * (s : Int) = ((i * s : Nat) : Int) := by push_cast; rfl
    rw [e, IntWalk.i64_in _ (by omega)]
  obtain ⟨m, hm2⟩ : ∃ m, m = i * s := ⟨_, rfl⟩
  rw [← hm2] at w2 hm ha
  have w3 : IntKind.i64.wrap (((64 * p : Nat) : Int) + ((m : Nat) : Int)) = ((64 * p + m : Nat) : Int) := by rw [IntWalk.i64_in _ (by omega)]; push_cast; rfl
  obtain ⟨p6, hp6⟩ : ∃ p6, p6 = 64 * p := ⟨_, rfl⟩
  rw [← hp6] at w1 w3 ha
  have e0 : (0 : Int) ≤ (j : Int) := by omega
  have e1 : (j : Int) < (n : Int) := by omega
  have HA := Lib.hid ha
  clear h hc hx hn hp ha hm2 hp6
  go_enter Try.func79, Try.ntmps79
  go_wp2_with (fail)
  go_quiet (fail)
  go_wp2_with (fail)
  go_ret
  exact ⟨congrArg (fun z : Nat => Ending.returned (.int .i64 (z : Int))) HA.out.symm, _, rfl⟩

theorem refC_get {s o kp : Nat} {q : List RS} {j : Nat} {x : RS} (hx : q[j]? = some x) : (refC s o kp q).sl[j]? = some x.1 := by show (q.map (·.1))[j]? = _; rw [List.getElem?_map, hx]; rfl
theorem RefAt.below {w w' : World} {own : Own?} {r : Nat} {Bp : Addr} {s o kp : Nat} {q : List RS} (h : RefAt w own r Bp s o kp q) (hf : Fresh own w) (hb : Below w.heap.size w w') : RefAt w' own r Bp s o kp q :=
  h.same hb.size fun k hk hl => ⟨hb.block k hl, rfl⟩

set_option maxRecDepth 100000 in
set_option maxHeartbeats 8000000 in
theorem objectsR_ok (w : World) (own : Own?) (r : Nat) (Bp : Addr) (s o kp N : Nat) (L : List Blk) (q : List RS) (h : RefAt w own r Bp s o kp q) (hf : Fresh own w) (H : CaOk (refC s o kp q) N L) :
    Calls Try.prog 53 #[.pointer (some ⟨r, 0, none⟩)] w fun e w' => (∃ A cp, e = .returned (.slice A (objC (refC s o kp q)).length cp) ∧ Own64 w' w.heap.size A cp (objC (refC s o kp q))) ∧ Below w.heap.size w w' := by
  obtain ⟨n, hn⟩ : ∃ n, n = q.length := ⟨_, rfl⟩
  have hlen := ok_len H
  rw [show (refC s o kp q).sl.length = n by show (q.map (·.1)).length = n; rw [List.length_map, hn]] at hlen
  obtain ⟨A0, c0, hcell, hrow, _⟩ := h.cell
  have hrl := lt_of_heap hcell
  have hn0 := hrow.len
  have hc0 := hrow.cap
  unfold maxLen at hc0
  rw [← hn] at hcell hn0
  have hs : s ≤ 1024 := H.sz.2.1
  obtain ⟨i0, z0, hi0, hz0, hz1, hz2, hz3⟩ := info_open i64_info
  have HX := Lib.hid (And.intro h (And.intro hf (And.intro H (And.intro hn hcell))))
  clear h hf H hn hcell hrow
  go_enter Try.func53, Try.ntmps53
  go_wp2_with (fail)
  go_loopw [3, 4] (fun v i wr => ∃ (k : Nat) (A : Option Addr) (cp : Nat), k ≤ n ∧ i = .int .i64 (k : Int) ∧ v = .slice A (objK (refC s o kp q) k).length cp ∧ Own64 wr w.heap.size A cp (objK (refC s o kp q) k) ∧ Below w.heap.size w wr) (fun _ i _ => n - (intOf i).toNat)
  case atStart => exact ⟨0, none, 0, Nat.zero_le _, rfl, rfl, World.ownsRow_nil _ _ _ _, Below.refl _ _⟩
  case round =>
    obtain ⟨k, A, cp, hk, rfl, rfl, hr, hb⟩ := hrel
    have e0 : (0 : Int) ≤ (k : Int) := by omega
    obtain ⟨_, _, _, _, c4, _⟩ := five_cells ((hb.block r hrl).trans HX.out.2.2.2.2)
    by_cases hlt : k < n
    · have e1 : (k : Int) < (n : Int) := by omega
      have hkk : IntKind.i64.wrap ((k : Int) + 1) = ((k + 1 : Nat) : Int) := by rw [IntWalk.i64_in _ (by omega)]; rfl
      obtain ⟨x, hx⟩ : ∃ x, q[k]? = some x := ⟨_, List.getElem?_eq_getElem (by have := HX.out.2.2.2.1; omega)⟩
      have hbo := ok_bounds HX.out.2.2.1 (List.mem_of_getElem? (refC_get hx))
      obtain ⟨p, hp⟩ : ∃ p, p = x.1.us.length := ⟨_, rfl⟩
      have HR := Lib.hid (And.intro hr (And.intro hb (And.intro hx hp)))
      have hpl : p ≤ 128 := by omega
      have hpg := hbo.1
      clear hr hb hx hbo hp
      go_wp2_with (fail)
      go_loopw [3, 5] (fun v i wi => ∃ (t : Nat) (A : Option Addr) (cp : Nat), t ≤ p ∧ i = .int .i64 (t : Int) ∧ v = .slice A (objK (refC s o kp q) k ++ objP s x.1 t).length cp ∧ Own64 wi w.heap.size A cp (objK (refC s o kp q) k ++ objP s x.1 t) ∧ Below w.heap.size w wi) (fun _ i _ => p - (intOf i).toNat)
      case atStart => exact ⟨0, A, cp, Nat.zero_le _, rfl, by rw [show objP s x.1 0 = [] from rfl, List.append_nil], by rw [show objP s x.1 0 = [] from rfl, List.append_nil]; exact HR.out.1, HR.out.2.1⟩
      case round =>
        obtain ⟨t, A1, cp1, ht, rfl, rfl, hr1, hb1⟩ := hrel
        have e2 : (0 : Int) ≤ (t : Int) := by omega
        have hq1 := HX.out.1.below HX.out.2.1 hb1
        obtain ⟨g, oo, cap, hc, hl1, _, hg, d0, d1⟩ := ref_row hq1 HR.out.2.2.1
        obtain ⟨_, _, _, _, c4', _⟩ := five_cells hc
        rw [← HX.out.2.2.2.1] at c4'
        rw [← HR.out.2.2.2] at d1
        by_cases hlt2 : t < p
        · have e3 : (t : Int) < (p : Int) := by omega
          have htt : IntKind.i64.wrap ((t : Int) + 1) = ((t + 1 : Nat) : Int) := by rw [IntWalk.i64_in _ (by omega)]; rfl
          obtain ⟨v, hv⟩ : ∃ v, x.1.us[t]? = some v := ⟨_, List.getElem?_eq_getElem (by have := HR.out.2.2.2; omega)⟩
          have hu := row_cell ((hq1.used k x HR.out.2.2.1).2) (i := t) (v := .bool v) (by rw [bcells_get, hv]; rfl)
          cases v with
          | false =>
            have HV := Lib.hid (And.intro hr1 (And.intro hb1 (objP_no (size := s) hv)))
            clear hr1 hb1 hq1 hc hv d0
            go_wp2_with (fail)
            go_roundw
            case rel => exact ⟨t + 1, A1, cp1, by omega, by go_num, by rw [HV.out.2.2], by rw [HV.out.2.2]; exact HV.out.1, HV.out.2.1⟩
            case measure => simp [intOf]; omega
          | true =>
            have had := addressR_ok wr own r Bp s o kp q hq1 k t x HR.out.2.2.1 (by omega) (by omega) hs
            obtain ⟨M, hM⟩ : ∃ M, M = objK (refC s o kp q) k ++ objP s x.1 t := ⟨_, rfl⟩
            obtain ⟨ad, hadd⟩ : ∃ ad, ad = addrS s x.1 t := ⟨_, rfl⟩
            have hM1 : objK (refC s o kp q) k ++ objP s x.1 (t + 1) = M ++ [ad] := by rw [objP_yes hv, ← List.append_assoc, hM, hadd]
            have hMl : M.length ≤ 200000 := by
              rw [hM, List.length_append]
              have h1 := objK_len (C := refC s o kp q) (fun y hy => (ok_bounds HX.out.2.2.1 hy).2.1) k (by show k ≤ (q.map (·.1)).length; rw [List.length_map]; have := HX.out.2.2.2.1; omega)
              have h2 := objP_len s x.1 t
              omega
            rw [← hM] at hr1 ⊢
            rw [← hadd] at had
            obtain ⟨ml, hml⟩ : ∃ ml, ml = M.length := ⟨_, rfl⟩
            have hr1' : wr.ownsRow w.heap.size 2 1 (.slice A1 ml cp1) ml (n64 M) := by rw [hml]; exact hr1
            rw [← hml] at hMl ⊢
            have HA := Lib.hid had
            have HV := Lib.hid (And.intro hr1' (And.intro hb1 (And.intro hM1 hml)))
            clear hr1 hr1' hb1 hq1 hc hv d0 had hM hadd hM1 hml
            go_wp2_with (go_at_call 79; fail)
            refine HA.out.mono ?_
            rintro _ W2 ⟨rfl, m, hW2⟩
            have hb2 : Below wr.heap.size wr W2 := by rw [hW2]; exact below_drew wr m
            have hr2 : W2.ownsRow w.heap.size 2 1 (.slice A1 ml cp1) ml (n64 M) := row_keep HV.out.1 fun z _ hz => hb2.block z hz
            have hbw : Below w.heap.size w W2 := below_step HV.out.2.1 hb2 (Nat.le_refl _)
            have H2 := Lib.hid (And.intro hr2 hbw)
            clear hW2 hb2 hr2 hbw
            go_wp2_with (at_builtin; refine wpList_append_lies _ rfl (.tmp 42) (.tmp 47) _ rfl w.heap.size 2 i0 z0 1 8 Try.underlying48 hi0 hz0 hz1 hz2 hz3 (by omega) (.slice A1 ml cp1) ml (n64 M) rfl (H2.out.1.alloc _) ⟨W2.heap.size, 0, none⟩ 1 1 [.int .i64 (ad : Int)] rfl rfl (World.news_of_block (heap_alloc_new _ _)) (by simp [Value.oneCell']) (by omega) (by unfold maxLen; omega) (by omega) (by have := H2.out.2.size; simp; omega) (W2.heap.size + 1) (by simp) ?_
                         intro g1 cap1 w1 hown1 hgrow1 hat1 hlt1
                         have hbw1 : Below w.heap.size w w1 := (H2.out.2.alloc H2.out.2.size _).grown hgrow1 (by have := H2.out.2.size; simp; omega) (fun z hz => (H2.out.1.lt z hz).1)
                         have H1 := Lib.hid (And.intro hown1 hbw1)
                         clear hown1 hgrow1 hat1 hbw1)
            go_roundw
            case rel =>
              refine ⟨t + 1, some ⟨g1, 0, none⟩, cap1, by omega, by go_num, ?_, ?_, H1.out.2⟩
              · rw [HV.out.2.2.1, List.length_append, List.length_singleton, HV.out.2.2.2]
              · rw [HV.out.2.2.1]
                show World.ownsRow _ _ _ _ _ _ _
                rw [List.length_append, List.length_singleton, ← HV.out.2.2.2, show n64 (M ++ [ad]) = n64 M ++ [.int .i64 (ad : Int)] by simp [n64]]
                exact H1.out.1
            case measure => simp [intOf]; omega
        · obtain rfl : t = p := by omega
          have e3 : ¬ ((t : Nat) : Int) < (t : Int) := by omega
          have hs1 : objK (refC s o kp q) (k + 1) = objK (refC s o kp q) k ++ objP s x.1 t := by rw [objK_succ (refC_get HR.out.2.2.1), HR.out.2.2.2]
          have HV := Lib.hid (And.intro hr1 (And.intro hb1 hs1))
          clear hr1 hb1 hq1 hc d0 hs1
          go_wp2_with (fail)
          go_roundw
          case rel => exact ⟨k + 1, A1, cp1, by omega, by go_num, by rw [HV.out.2.2], by rw [HV.out.2.2]; exact HV.out.1, HV.out.2.1⟩
          case measure => simp [intOf]; omega
    · obtain rfl : k = n := by omega
      have e1 : ¬ ((k : Nat) : Int) < (k : Int) := by omega
      have hall : objK (refC s o kp q) k = objC (refC s o kp q) := by
        rw [HX.out.2.2.2.1, show q.length = (refC s o kp q).sl.length by show _ = (q.map (·.1)).length; rw [List.length_map]]
        exact objK_all _
      have HR := Lib.hid (And.intro hr (And.intro hb hall))
      clear hr hb hall
      go_wp2_with (fail)
      go_ret
      exact ⟨⟨A, cp, by rw [← HR.out.2.2]; rfl, by rw [← HR.out.2.2]; exact HR.out.1⟩, HR.out.2.1⟩
end Sl
end Go.Proofs.Ytlknhbcambdccaa
namespace Go.Proofs.Ytlknhbcambdccaa
open Go.RowKit
namespace Sl
open Bu

theorem slabs_grow {w wr W5 w6 : World} {k cp : Nat} {A : Option Addr} {V : List Value} {ob : Obj} {e : TypeId} (hb : Below w.heap.size w wr) (h5 : Below (World.drew wr).heap.size (World.drew wr) W5) (hr : wr.ownsRow w.heap.size e 2 (.slice A k cp) k V) (hg : (W5.alloc ob).grownBy w6 (Value.slice A k cp).ownBlock) :
    Below w.heap.size w w6 := by
  have h5' : Below wr.heap.size wr W5 := ⟨h5.os, h5.tape, h5.output, h5.size, h5.block⟩
  have h1 : Below w.heap.size w W5 := below_step hb h5' (Nat.le_refl _)
  exact (h1.alloc h1.size _).grown hg (by have := h1.size; simp; omega) (fun z hz => (hr.lt z hz).1)

set_option maxRecDepth 100000 in
set_option maxHeartbeats 8000000 in
theorem slabsR_ok (w : World) (own : Own?) (r : Nat) (Bp : Addr) (s o kp N : Nat) (L : List Blk) (q : List RS) (h : RefAt w own r Bp s o kp q) (hf : Fresh own w) (H : CaOk (refC s o kp q) N L) :
    Calls Try.prog 62 #[.pointer (some ⟨r, 0, none⟩)] w fun e w' => (∃ A cp, e = .returned (.slice A q.length cp) ∧ w'.ownsRow w.heap.size 39 2 (.slice A q.length cp) q.length (viewS (q.map (·.1)))) ∧ Below w.heap.size w w' := by
  obtain ⟨n, hn⟩ : ∃ n, n = q.length := ⟨_, rfl⟩
  have hlen := ok_len H
  rw [show (refC s o kp q).sl.length = n by show (q.map (·.1)).length = n; rw [List.length_map, hn]] at hlen
  obtain ⟨A0, c0, hcell, hrow, hG⟩ := h.cell
  have hrl := lt_of_heap hcell
  have hn0 := hrow.len
  have hc0 := hrow.cap
  unfold maxLen at hc0
  rw [← hn] at hcell hn0 ⊢
  obtain ⟨i0, z0, hi0, hz0, hz1, hz2, hz3⟩ := info_open slslab_info
  have HX := Lib.hid (And.intro h (And.intro hf (And.intro H (And.intro hn hcell))))
  clear h hf H hn hcell hrow
  go_enter Try.func62, Try.ntmps62
  go_wp2_with (fail)
  go_loopw [3, 4] (fun v i wr => ∃ (k : Nat) (A : Option Addr) (cp : Nat), k ≤ n ∧ i = .int .i64 (k : Int) ∧ v = .slice A k cp ∧ wr.ownsRow w.heap.size 39 2 (.slice A k cp) k (viewS ((q.map (·.1)).take k)) ∧ Below w.heap.size w wr) (fun _ i _ => n - (intOf i).toNat)
  case atStart => exact ⟨0, none, 0, Nat.zero_le _, rfl, rfl, World.ownsRow_nil _ _ _ _, Below.refl _ _⟩
  case round =>
    obtain ⟨k, A, cp, hk, rfl, rfl, hr, hb⟩ := hrel
    have e0 : (0 : Int) ≤ (k : Int) := by omega
    obtain ⟨_, _, _, _, c4, _⟩ := five_cells ((hb.block r hrl).trans HX.out.2.2.2.2)
    by_cases hlt : k < n
    · have e1 : (k : Int) < (n : Int) := by omega
      have hkk : IntKind.i64.wrap ((k : Int) + 1) = ((k + 1 : Nat) : Int) := by rw [IntWalk.i64_in _ (by omega)]; rfl
      obtain ⟨x, hx⟩ : ∃ x, q[k]? = some x := ⟨_, List.getElem?_eq_getElem (by have := HX.out.2.2.2.1; omega)⟩
      have hq1 := HX.out.1.below HX.out.2.1 hb
      obtain ⟨g, oo, cap, hc, hl1, hcm, hg, d0, d1⟩ := ref_row hq1 hx
      obtain ⟨_, _, _, _, c4', _⟩ := five_cells hc
      rw [← HX.out.2.2.2.1] at c4' hl1
      rw [c4] at c4'
      injection c4' with c4'
      injection c4' with e5 e6 e7
      subst e5
      have hus := usedR_ok (World.drew wr) (x.1.pg : Int) (some ⟨x.2.1, 0, none⟩) x.2.2 x.1.us (bool_row (row_keep (hq1.used k x hx).2 fun _ _ _ => rfl))
      obtain ⟨p, hp⟩ : ∃ p, p = x.1.us.length := ⟨_, rfl⟩
      obtain ⟨m, hm⟩ : ∃ m, m = x.1.us.count true := ⟨_, rfl⟩
      rw [← hp] at d1
      rw [← hp, ← hm] at hus
      have hv1 : viewS ((q.map (·.1)).take (k + 1)) = viewS ((q.map (·.1)).take k) ++ [.int .i64 (x.1.pg : Int), .int .i64 (m : Int)] := by
        rw [take_snocX (refC_get (s := s) (o := o) (kp := kp) hx), viewS_add, hm]; rfl
      obtain ⟨V, hV⟩ : ∃ V, V = viewS ((q.map (·.1)).take k) := ⟨_, rfl⟩
      rw [← hV] at hr hv1
      have hgw : g < w.heap.size := (hG g rfl).2
      have HW0 := Lib.hid (And.intro ((hb.cell (p := ⟨r, 4, none⟩) hrl).symm.trans c4) (And.intro ((hb.cell (p := ⟨g, oo + k * 2, none⟩) hgw).symm.trans d0) ((hb.cell (p := ⟨g, oo + k * 2 + 1, none⟩) hgw).symm.trans d1)))
      have hrlw : r < wr.heap.size := by have := hb.size; omega
      have HU := Lib.hid hus
      have HR := Lib.hid (And.intro hr (And.intro hb hv1))
      clear hr hb hv1 hus hx hq1 hc hp hm hV
      go_wp2_with (fail)
      go_region_held3 (fun w' => w'.cell? ⟨r, 4, none⟩ = some (.slice (some ⟨g, oo, none⟩) n c0) ∧ w'.cell? ⟨g, oo + k * 2, none⟩ = some (.int .i64 (x.1.pg : Int)) ∧ w'.cell? ⟨g, oo + k * 2 + 1, none⟩ = some (.slice (some ⟨x.2.1, 0, none⟩) p x.2.2)) (first | exact ⟨c4, d0, d1⟩ | exact ⟨f0, f1, f2⟩ | exact ⟨a0, a1, a2⟩ | exact ⟨b0, b1, b2⟩) (first
        | (go_at_call 80
           refine HU.out.mono ?_
           rintro _ W5 ⟨rfl, hb5⟩
           have f0 := cell_keep2 hb5 c4
           have f1 := cell_keep2 hb5 d0
           have f2 := cell_keep2 hb5 d1
           have hg5 : g < W5.heap.size := Nat.lt_of_lt_of_le hg hb5.size
           have hr5 : r < W5.heap.size := Nat.lt_of_lt_of_le hrlw hb5.size
           have a0 : (W5.alloc (.cells #[.int .i64 (x.1.pg : Int), .int .i64 (m : Int)] 39)).cell? ⟨r, 4, none⟩ = some (.slice (some ⟨g, oo, none⟩) n c0) := (World.cell?_alloc_lt W5 _ _ hr5).trans f0
           have a1 : (W5.alloc (.cells #[.int .i64 (x.1.pg : Int), .int .i64 (m : Int)] 39)).cell? ⟨g, oo + k * 2, none⟩ = some (.int .i64 (x.1.pg : Int)) := (World.cell?_alloc_lt W5 _ _ hg5).trans f1
           have a2 : (W5.alloc (.cells #[.int .i64 (x.1.pg : Int), .int .i64 (m : Int)] 39)).cell? ⟨g, oo + k * 2 + 1, none⟩ = some (.slice (some ⟨x.2.1, 0, none⟩) p x.2.2) := (World.cell?_alloc_lt W5 _ _ hg5).trans f2
           have H5 := Lib.hid hb5
           clear hb5)
        | (refine step_append_lies _ (by rfl) (.tmp 15) (.tmp 35) _ (by rfl) w.heap.size 39 i0 z0 2 16 Try.underlying30 hi0 hz0 hz1 hz2 hz3 (by omega) (.slice A k cp) k V (by rfl) ((row_keep (w' := W5) HR.out.1 (fun z _ hz => H5.out.block z hz)).alloc _) ⟨W5.heap.size, 0, none⟩ 1 1 [.int .i64 (x.1.pg : Int), .int .i64 (m : Int)] (by rfl) (by rfl) (two_new _ _ _ _) (by simp [Value.oneCell']) (by omega) (by unfold maxLen; omega) (by omega) (by have := HR.out.2.1.size; have h2 : wr.heap.size ≤ W5.heap.size := H5.out.size; rw [World.size_alloc]; omega) (W5.heap.size + 1) (by simp) ?_
           intro g6 cap6 w6 hown6 hgrow6 hat6 hlt6
           have hb6 : Below w.heap.size w w6 := slabs_grow HR.out.2.1 H5.out HR.out.1 hgrow6
           have b0 : w6.cell? ⟨r, 4, none⟩ = some (.slice (some ⟨g, oo, none⟩) n c0) := (hb6.cell (p := ⟨r, 4, none⟩) hrl).trans HW0.out.1
           have b1 : w6.cell? ⟨g, oo + k * 2, none⟩ = some (.int .i64 (x.1.pg : Int)) := (hb6.cell (p := ⟨g, oo + k * 2, none⟩) hgw).trans HW0.out.2.1
           have b2 : w6.cell? ⟨g, oo + k * 2 + 1, none⟩ = some (.slice (some ⟨x.2.1, 0, none⟩) p x.2.2) := (hb6.cell (p := ⟨g, oo + k * 2 + 1, none⟩) hgw).trans HW0.out.2.2
           have H6 := Lib.hid (And.intro hown6 hb6)
           clear hown6 hgrow6 hat6 hb6))
      all_goals
        go_wp2_with (fail)
        go_roundw
        case rel => exact ⟨k + 1, some ⟨g6, 0, none⟩, cap6, by omega, by go_num, rfl, by rw [HR.out.2.2]; exact H6.out.1, H6.out.2⟩
        case measure => simp [intOf]; omega
    · obtain rfl : k = n := by omega
      have e1 : ¬ ((k : Nat) : Int) < (k : Int) := by omega
      have hall : (q.map (·.1)).take k = q.map (·.1) := by rw [HX.out.2.2.2.1, show q.length = (q.map (·.1)).length by rw [List.length_map], List.take_length]
      rw [hall] at hr
      have HR := Lib.hid (And.intro hr hb)
      clear hr hb hall
      go_wp2_with (fail)
      go_ret
      exact ⟨⟨A, cp, rfl, HR.out.1⟩, HR.out.2⟩
end Sl
end Go.Proofs.Ytlknhbcambdccaa
namespace Go.Proofs.Ytlknhbcambdccaa
open Go.RowKit
namespace Sl
open Bu

theorem ref_sb {w : World} {own : Own?} {r : Nat} {Bp : Addr} {s o kp : Nat} {q : List RS} {A : Option Addr} {cap : Nat} (hr : RowAt w A cap q) (hu : ∀ (j : Nat) (x : RS), q[j]? = some x → own x.2.1 = some (x.1.pg + 10) ∧ w.ownsRow 0 4 1 (.slice (some ⟨x.2.1, 0, none⟩) x.1.us.length x.2.2) x.1.us.length (bcells x.1.us)) : SbAt 0 w A cap (saveS (q.map (·.1))) := by
  refine ⟨by rw [saveS_len, List.length_map]; exact hr.len, hr.cap, fun j y hy => ?_⟩
  unfold saveS at hy
  rw [List.map_map, List.getElem?_map] at hy
  obtain ⟨x, hx, rfl⟩ := Option.map_eq_some_iff.1 hy
  obtain ⟨g, oo, h1, h2, h3, h4⟩ := hr.at_ j x hx
  exact ⟨g, oo, _, _, h1, Nat.zero_le _, h2, h3, h4, bool_row (hu j x hx).2⟩
theorem cop_sb {W : World} {B : Nat} {s o kp : Int} {sl : List Slb} {e : Ending} (h : CopR B s o kp sl e W) : ∃ A cp, e = .returned (stv s o kp A sl.length cp) ∧ SbAt B W A cp (saveS sl) := by
  obtain ⟨A, cp, q, he, hq, hu, _, hr⟩ := h
  refine ⟨A, cp, he, ?_⟩
  obtain ⟨h1, h2⟩ := hr.at
  refine ⟨by rw [saveS_len, ← hq, List.length_map]; exact h1.len, h1.cap, fun j y hy => ?_⟩
  rw [← hq] at hy
  unfold saveS at hy
  rw [List.map_map, List.getElem?_map] at hy
  obtain ⟨x, hx, rfl⟩ := Option.map_eq_some_iff.1 hy
  obtain ⟨g, oo, k1, k2, k3, k4⟩ := h1.at_ j x hx
  exact ⟨g, oo, _, _, k1, (h2 g (by rw [k1]; rfl)).1, k2, k3, k4, bool_row (hu j x hx).1⟩

set_option maxRecDepth 100000 in
set_option maxHeartbeats 2000000 in
theorem saveR_ok (w : World) (own : Own?) (r : Nat) (Bp : Addr) (s o kp N : Nat) (L : List Blk) (q : List RS) (h : RefAt w own r Bp s o kp q) (H : CaOk (refC s o kp q) N L) :
    Calls Try.prog 65 #[.pointer (some ⟨r, 0, none⟩)] w fun e w' => (∃ A cp, e = .returned (stv (s : Int) (o : Int) (kp : Int) A q.length cp) ∧ SbAt w.heap.size w' A cp (saveS (q.map (·.1)))) ∧ Below w.heap.size w w' := by
  obtain ⟨A0, c0, hcell, hrow, _⟩ := h.cell
  obtain ⟨n, hn⟩ : ∃ n, n = q.length := ⟨_, rfl⟩
  obtain ⟨W1, hW1⟩ : ∃ W1, W1 = w.alloc (.cells #[.int .i64 0, .int .i64 0, .int .i64 0, .slice none 0 0] 69) := ⟨_, rfl⟩
  have hb1 : Below w.heap.size w W1 := by rw [hW1]; exact below_box w _
  have hs1 : W1.heap.size = w.heap.size + 1 := by rw [hW1]; simp
  have hx1 : W1.heap[w.heap.size]? = some (.cells #[.int .i64 0, .int .i64 0, .int .i64 0, .slice none 0 0] 69 (0, 0)) := by rw [hW1, heapAlloc, if_pos rfl]
  have hsb : SbAt 0 W1 A0 c0 (saveS (q.map (·.1))) := (ref_sb (own := own) (r := r) (Bp := Bp) (s := s) (o := o) (kp := kp) hrow h.used).below hb1
  have hlen := ok_len H
  have hcp := copied_ok W1 (s : Int) (o : Int) (kp : Int) A0 c0 (q.map (·.1)) hsb (fun x hx => by have := ok_bounds H hx; omega) (by have h1 : (q.map (·.1)).length ≤ 1024 := hlen; omega)
  obtain ⟨_, c1, c2, c3, c4, _⟩ := five_cells ((hb1.block r (lt_of_heap hcell)).trans hcell)
  rw [List.length_map, ← hn] at hcp
  rw [← hn] at c4 ⊢
  have HC := Lib.hid hcp
  have HX := Lib.hid (And.intro hb1 (And.intro hs1 (And.intro hx1 hn)))
  have HW := Lib.hid hW1
  clear h H hcell hrow hb1 hs1 hx1 hsb hlen hcp hn hW1
  go_enter Try.func65, Try.ntmps65
  go_upto_region 1 with (fail)
  rw [← HW.out]
  go_wp2_with (go_at_call 69; fail)
  refine HC.out.mono ?_
  rintro e2 W2 ⟨hcr, hb2⟩
  obtain ⟨A, cp, rfl, hsb⟩ := cop_sb hcr
  rw [List.length_map, ← HX.out.2.2.2]
  have hRc := (hb2.block w.heap.size (by have := HX.out.2.1; omega)).trans HX.out.2.2.1
  obtain ⟨_, _, _, _⟩ := four_at hRc
  have qf : ∀ o, W2.frozen? ⟨w.heap.size, o, none⟩ = false := fun o => by simp [World.frozen?, hRc]
  have qf0 := qf 0
  have qf1 := qf 1
  have qf2 := qf 2
  have qf3 := qf 3
  have HJ := Lib.hid (And.intro hsb (And.intro hb2 hRc))
  clear hsb hb2 hRc qf hcr
  go_wp2_with (fail)
  obtain ⟨hsb, hb2, hRc⟩ := HJ.out
  have hfin := four_set hRc (.int .i64 (s : Int)) (.int .i64 (o : Int)) (.int .i64 (kp : Int)) (.slice A n cp)
  obtain ⟨q4, q5, q6, q7⟩ := four_at hfin
  refine bodyPost_ret (v := stv (s : Int) (o : Int) (kp : Int) A n cp) (by simp [results, Try.results65, go_sem, q4, q5, q6, q7]) rfl ⟨⟨A, cp, rfl, ?_⟩, ?_⟩
  · refine SbAt.low (B := w.heap.size + 1) (Nat.le_succ _) ?_
    rw [HX.out.2.1] at hsb
    refine hsb.keep (by rw [setCell_size, setCell_size, setCell_size, setCell_size]; exact Nat.le_refl _) fun z h1 h2 => ?_
    exact (setCell_far _ _ _ _ (by show z ≠ w.heap.size; omega)).trans ((setCell_far _ _ _ _ (by show z ≠ w.heap.size; omega)).trans ((setCell_far _ _ _ _ (by show z ≠ w.heap.size; omega)).trans (setCell_far _ _ _ _ (by show z ≠ w.heap.size; omega))))
  · have hb := below_step HX.out.1 hb2 (Nat.le_refl _)
    exact ((((hb.setCell (p := ⟨w.heap.size, 0, none⟩) (Nat.le_refl _) _).setCell (p := ⟨w.heap.size, 1, none⟩) (Nat.le_refl _) _).setCell (p := ⟨w.heap.size, 2, none⟩) (Nat.le_refl _) _).setCell (p := ⟨w.heap.size, 3, none⟩) (Nat.le_refl _) _)
end Sl
end Go.Proofs.Ytlknhbcambdccaa
