/- New, Load and Save of the reference. -/
import Derived.Test.YtlknhbcambdccaaJZE
import Derived.Deep.RegionHeld3
namespace Go.Proofs.Ytlknhbcambdccaa
open Go.RowKit
namespace Sl
open Bu

/-- Which blocks a new cache of the reference has. -/
def ownQ (r : Nat) (A : Option Addr) (q : List RS) : Own? := fun k => match q.find? (fun x => x.2.1 == k) with
  | some x => some (x.1.pg + 10)
  | none => if k = r then some 0 else if A.map (·.block) = some k then some 2 else none

theorem find_us {q : List RS} (hp : q.Pairwise fun a b => a.2.1 < b.2.1) {x : RS} (hx : x ∈ q) : q.find? (fun y => y.2.1 == x.2.1) = some x := by
  induction q with
  | nil => cases hx
  | cons y q ih =>
    rw [List.pairwise_cons] at hp
    rw [List.find?_cons]
    rcases List.mem_cons.1 hx with rfl | h
    · simp
    · have := hp.1 x h
      rw [show (y.2.1 == x.2.1) = false by rw [beq_eq_false_iff_ne]; omega]
      exact ih hp.2 h

/-- A copy makes a cache of the reference. -/
theorem ref_of {w W : World} {B r : Nat} {Bp : Addr} {s o kp : Nat} {A : Option Addr} {cp : Nat} {q : List RS} (hB : B ≤ w.heap.size) (hu : ∀ (j : Nat) (x : RS), q[j]? = some x → w.ownsRow B 4 1 (.slice (some ⟨x.2.1, 0, none⟩) x.1.us.length x.2.2) x.1.us.length (bcells x.1.us) ∧ A.map (·.block) ≠ some x.2.1)
    (hp : q.Pairwise fun a b => a.2.1 < b.2.1) (hr : OwnR w B A cp q) (hrr : w.heap.size ≤ r) (hb : Below w.heap.size w W)
    (hc : W.heap[r]? = some (.cells #[.pointer (some Bp), .int .i64 (s : Int), .int .i64 (o : Int), .int .i64 (kp : Int), .slice A q.length cp] 133 (0, 0))) :
    RefAt W (ownQ r A q) r Bp s o kp q ∧ Fresh (ownQ r A q) W ∧ ∀ z, z < B → ownQ r A q z = none := by
  have hrl := lt_of_heap hc
  have hbs := hb.size
  have hq : ∀ k, (∀ x ∈ q, x.2.1 ≠ k) → q.find? (fun x => x.2.1 == k) = none := fun k h => by
    rw [List.find?_eq_none]
    intro x hx
    simpa using h x hx
  have hul : ∀ x ∈ q, B ≤ x.2.1 ∧ x.2.1 < w.heap.size ∧ A.map (·.block) ≠ some x.2.1 := fun x hx => by
    obtain ⟨j, hj⟩ := List.mem_iff_getElem?.1 hx
    obtain ⟨h1, h2⟩ := hu j x hj
    have := h1.lt x.2.1 rfl
    exact ⟨this.1, this.2, h2⟩
  obtain ⟨hra, hrb⟩ := hr.at
  refine ⟨⟨?_, ⟨A, cp, hc, hra.keep hbs fun g _ hg => hb.block g hg, fun g hg => ⟨?_, ?_⟩⟩, fun j x hx => ⟨?_, ?_⟩⟩, fun k hk => ?_, fun z hz => ?_⟩
  · unfold ownQ
    rw [hq r fun x hx => by have := hul x hx; omega]
    rw [if_pos rfl]
  · unfold ownQ
    rw [hq g fun x hx e => (hul x hx).2.2 (by rw [e]; exact hg)]
    have := (hrb g hg).2
    show (if g = r then some 0 else if A.map (·.block) = some g then some 2 else none) = some 2
    rw [if_neg (by omega), if_pos hg]
  · have := (hrb g hg).2; omega
  · unfold ownQ
    rw [find_us hp (List.mem_of_getElem? hx)]
  · have h1 := (hu j x hx).1
    exact row_same (row_low h1 (Nat.zero_le _)) fun g hg => by
      have hg : x.2.1 = g := by injection hg
      rw [← hg]; exact hb.block _ (hul x (List.mem_of_getElem? hx)).2.1
  · unfold ownQ at hk
    cases hf : q.find? (fun x => x.2.1 == k) with
    | some x =>
      have h1 := List.find?_some hf
      have h2 := hul x (List.mem_of_find?_eq_some hf)
      have h3 : x.2.1 = k := by simpa using h1
      omega
    | none =>
      rw [hf] at hk
      have hk : (if k = r then some 0 else if A.map (·.block) = some k then some 2 else none) ≠ none := hk
      split at hk
      · omega
      · split at hk
        · next e => have := (hrb k e).2; omega
        · exact absurd rfl hk
  · unfold ownQ
    rw [hq z fun x hx => by have := hul x hx; omega]
    show (if z = r then some 0 else if A.map (·.block) = some z then some 2 else none) = none
    rw [if_neg (by omega), if_neg (fun e => by have := (hrb z e).1; omega)]

/-- What New and Load of the reference leave where all is well. -/
def RNew (w : World) (Bp : Addr) (s o kp : Nat) (sl : List Slb) (e : Ending) (W : World) : Prop :=
  ∃ r own q, e = .returned (.tuple #[.pointer (some ⟨r, 0, none⟩), .int .i64 0]) ∧ q.map (·.1) = sl ∧ RefAt W own r Bp s o kp q ∧ Fresh own W ∧ (∀ z, z < w.heap.size → own z = none) ∧ w.heap.size ≤ r

set_option maxRecDepth 100000 in
set_option maxHeartbeats 2000000 in
theorem newR_yes (w : World) (Bp : Addr) (size order keep : Int) (hs : sizesB size order keep = true) :
    Calls Try.prog 52 #[.pointer (some Bp), .int .i64 size, .int .i64 order, .int .i64 keep] w fun e w' => (∃ s o kp : Nat, size = (s : Int) ∧ order = (o : Int) ∧ keep = (kp : Int) ∧ RNew w Bp s o kp [] e w') ∧ Below w.heap.size w w' := by
  have hS := sizesR_ok w size order keep
  rw [hs] at hS
  have HS := Lib.hid hS
  have hs2 := hs
  unfold sizesB at hs2
  rw [decide_eq_true_eq] at hs2
  have HV := Lib.hid hs2
  clear hs hS hs2
  go_enter Try.func52, Try.ntmps52
  go_wp2_with (go_at_call 67; refine HS.out.mono ?_; rintro e w' ⟨rfl, rfl⟩)
  go_ret2
  obtain ⟨h1, h2, h3, h4, h5, h6, h7, _⟩ := HV.out
  obtain ⟨s, rfl⟩ := Int.eq_ofNat_of_zero_le (show 0 ≤ size by omega)
  obtain ⟨o, rfl⟩ := Int.eq_ofNat_of_zero_le h4
  obtain ⟨kp, rfl⟩ := Int.eq_ofNat_of_zero_le h6
  refine ⟨⟨s, o, kp, rfl, rfl, rfl, w.heap.size, ownQ w.heap.size none [], [], rfl, rfl, ?_⟩, below_box w _⟩
  obtain ⟨g1, g2, g3⟩ := ref_of (w := w) (W := w.alloc (.cells #[.pointer (some Bp), .int .i64 (s : Int), .int .i64 (o : Int), .int .i64 (kp : Int), .slice none 0 0] 133)) (B := w.heap.size) (r := w.heap.size) (Bp := Bp) (s := s) (o := o) (kp := kp) (A := none) (cp := 0) (q := []) (Nat.le_refl _) (fun j x hx => by simp at hx) List.Pairwise.nil (World.ownsRow_nil _ _ _ _) (Nat.le_refl _) (below_box w _) (by rw [heapAlloc, if_pos rfl]; rfl)
  exact ⟨g1, g2, g3, Nat.le_refl _⟩

set_option maxRecDepth 100000 in
set_option maxHeartbeats 2000000 in
theorem newR_no (w : World) (Bp : Addr) (size order keep : Int) (hs : sizesB size order keep = false) :
    Calls Try.prog 52 #[.pointer (some Bp), .int .i64 size, .int .i64 order, .int .i64 keep] w fun e w' => e = .returned (.tuple #[.pointer none, .int .i64 7]) ∧ Below w.heap.size w w' := by
  have hS := sizesR_ok w size order keep
  rw [hs] at hS
  have HS := Lib.hid hS
  clear hs hS
  go_enter Try.func52, Try.ntmps52
  go_wp2_with (go_at_call 67; refine HS.out.mono ?_; rintro e w' ⟨rfl, rfl⟩)
  go_ret2
  exact ⟨rfl, Below.refl _ _⟩

theorem save_load {L : List Blk} {o cap : Nat} {l : List (Int × List Bool)} (h : OkX L o cap l) : saveS (loadS l) = l := by
  unfold saveS loadS
  rw [List.map_map]
  refine List.ext_getElem? fun i => ?_
  rw [List.getElem?_map]
  cases hx : l[i]? with
  | none => rfl
  | some x =>
    have h0 := (h i x hx).1
    show some ((((x.1.toNat : Nat) : Int)), x.2) = some x
    rw [Int.toNat_of_nonneg h0]
/-- The value of a state of an allocator, as one of its fields lies in memory. -/
def StAt (w : World) (Bp : Addr) (N : Nat) (A : Option Addr) (c : Nat) (L : List Blk) : Prop :=
  Bp.block < w.heap.size ∧ w.cell? Bp = some (.int .i64 (N : Int)) ∧ w.cell? (Bp.add 1) = some (.slice A L.length c) ∧ BlkAt w A c L

set_option maxRecDepth 100000 in
set_option maxHeartbeats 4000000 in
theorem loadR_ok (w : World) (b ob : Nat) (N s o kp : Nat) (L : List Blk) (A : Option Addr) (c : Nat) (A2 : Option Addr) (c2 : Nat) (l : List (Int × List Bool)) (hbw : b < w.heap.size) (hB0 : w.cell? ⟨b, ob, none⟩ = some (.int .i64 (N : Int))) (hB1 : w.cell? ⟨b, ob + 1, none⟩ = some (.slice A L.length c)) (hB : BlkAt w A c L) (hS : St N L)
    (hsz : sizesB (s : Int) (o : Int) (kp : Int) = true) (h : SbAt 0 w A2 c2 l) (hl64 : ∀ x ∈ l, -9223372036854775808 ≤ x.1 ∧ x.1 < 9223372036854775808) :
    Calls Try.prog 33 #[.pointer (some ⟨b, ob, none⟩), stv (s : Int) (o : Int) (kp : Int) A2 l.length c2] w fun e w' => ((OkX L o (capa s o) l ∧ emptyS (loadS l) ≤ kp ∧ RNew w ⟨b, ob, none⟩ s o kp (loadS l) e w') ∨ (¬ (OkX L o (capa s o) l ∧ emptyS (loadS l) ≤ kp) ∧ e = .returned (.tuple #[.pointer none, .int .i64 6]))) ∧ Below w.heap.size w w' := by
  have hs2 := hsz
  unfold sizesB at hs2
  rw [decide_eq_true_eq] at hs2
  obtain ⟨h1, h2, h3, h4, h5, h6, h7, h8⟩ := hs2
  obtain ⟨n, hn⟩ : ∃ n, n = l.length := ⟨_, rfl⟩
  obtain ⟨W1, hW1⟩ : ∃ W1, W1 = w.alloc (.cells #[.int .i64 (s : Int), .int .i64 (o : Int), .int .i64 (kp : Int), .slice A2 n c2] 69) := ⟨_, rfl⟩
  have hb1 : Below w.heap.size w W1 := by rw [hW1]; exact below_box w _
  have hx1 : W1.heap[w.heap.size]? = some (.cells #[.int .i64 (s : Int), .int .i64 (o : Int), .int .i64 (kp : Int), .slice A2 n c2] 69 (0, 0)) := by rw [hW1, heapAlloc, if_pos rfl]
  obtain ⟨x0, x1, x2, x3⟩ := four_at hx1
  have hSz := sizesR_ok W1 (s : Int) (o : Int) (kp : Int)
  rw [hsz] at hSz
  have HSz := Lib.hid hSz
  obtain ⟨q0, hq0⟩ : ∃ q, q = L.length := ⟨_, rfl⟩
  have hV := validR_ok (World.drew W1) N s o kp L A c A2 c2 l (by omega) (by omega) ((hB.below hb1).below (below_drew W1 1)) hS ((h.below hb1).below (below_drew W1 1)) hl64
  rw [← hn] at hV ⊢
  rw [← hq0] at hV hB1
  have b0 := (hb1.cell (p := ⟨b, ob, none⟩) hbw).trans hB0
  have b1 := (hb1.cell (p := ⟨b, ob + 1, none⟩) hbw).trans hB1
  have HV := Lib.hid hV
  have HX := Lib.hid (And.intro hb1 (And.intro hx1 (And.intro (h.below hb1) (And.intro hn hsz))))
  have HW := Lib.hid hW1
  have hwW := lt_of_heap hx1
  have hcpp : 1 ≤ capa s o ∧ capa s o ≤ 128 := by
    have h16 : 2 ^ o ≤ 2 ^ 4 := Nat.pow_le_pow_right (by decide) (by omega)
    rw [Int.toNat_natCast] at h8
    unfold capa
    refine ⟨(Nat.one_le_div_iff (by omega)).2 (by omega), ?_⟩
    rw [Nat.div_le_iff_le_mul_add_pred (by omega)]
    have : 64 * 2 ^ o ≤ 64 * 16 := Nat.mul_le_mul_left _ h16
    have : 128 * 8 ≤ s * 128 := by omega
    omega
  have HS := Lib.hid (And.intro hS hcpp)
  clear hcpp h8
  clear hsz hSz hb1 hx1 hV hW1 hB0 hB1 hB hS hl64 h hn hq0
  go_enter Try.func33, Try.ntmps33
  go_wp2_with (fail)
  rw [← HW.out]
  go_wp2_with (go_at_call 67; refine HSz.out.mono ?_; rintro e w' ⟨rfl, rfl⟩)
  go_region_held3 (fun w' => w'.cell? ⟨b, ob, none⟩ = some (.int .i64 (N : Int)) ∧ w'.cell? ⟨b, ob + 1, none⟩ = some (.slice A q0 c) ∧ w'.cell? ⟨w.heap.size, 0, none⟩ = some (.int .i64 (s : Int)) ∧ w'.cell? ⟨w.heap.size, 1, none⟩ = some (.int .i64 (o : Int)) ∧ w'.cell? ⟨w.heap.size, 2, none⟩ = some (.int .i64 (kp : Int)) ∧ w'.cell? ⟨w.heap.size, 3, none⟩ = some (.slice A2 n c2)) (first | exact ⟨b0, b1, x0, x1, x2, x3⟩ | exact ⟨d0, d1, y0, y1, y2, y3⟩) (first
    | (go_at_call 68; refine HV.out.mono ?_; rintro _ W8 ⟨⟨bv, rfl, hbv⟩, hb8⟩; have d0 := cell_keep2 hb8 b0; have d1 := cell_keep2 hb8 b1; have y0 := cell_keep2 hb8 x0; have y1 := cell_keep2 hb8 x1; have y2 := cell_keep2 hb8 x2; have y3 := cell_keep2 hb8 x3; have H8 := Lib.hid (And.intro hbv hb8); clear hbv hb8))
  cases bv with
  | false =>
    go_wp2_with (fail)
    go_ret2
    exact ⟨.inr ⟨(fun h => by have := H8.out.1.2 h; cases this), rfl⟩, below_step' HX.out.1 H8.out.2 (Nat.le_refl _)⟩
  | true =>
    have hv := H8.out.1.1 rfl
    have hb8 : Below W1.heap.size W1 W8 := ⟨H8.out.2.os, H8.out.2.tape, H8.out.2.output, H8.out.2.size, H8.out.2.block⟩
    have hsl := save_load hv.1
    have hln : (loadS l).length = n := by unfold loadS; rw [List.length_map]; exact HX.out.2.2.2.1.symm
    have hl2 := okX_len HS.out.1 hv.1
    have hcp := copied_ok W8 (s : Int) (o : Int) (kp : Int) A2 c2 (loadS l) (by rw [hsl]; exact HX.out.2.2.1.below hb8) (fun x hx => by
      obtain ⟨i, hi⟩ := List.mem_iff_getElem?.1 hx
      obtain ⟨y, hy, rfl⟩ := loadS_get hi
      have := (hv.1 i y hy).2.2.2
      have h2 := HS.out.2
      show 1 ≤ y.2.length ∧ y.2.length ≤ 1000
      omega) (by have := HX.out.2.2.2.1; omega)
    rw [hln] at hcp
    have HC := Lib.hid hcp
    have HY := Lib.hid (And.intro hv (And.intro hb8 hln))
    clear hv hb8 hsl hln hl2 hcp
    go_wp2_with (go_at_call 69; fail)
    refine HC.out.mono ?_
    rintro _ W9 ⟨hcr, hb9⟩
    obtain ⟨A9, cp9, q, rfl, hq, hu, hpw, hr⟩ := hcr
    have H9 := Lib.hid (And.intro hq (And.intro hu (And.intro hpw (And.intro hr hb9))))
    clear hq hu hpw hr hb9
    go_wp2_with (fail)
    go_ret2
    obtain ⟨hq, hu, hpw, hr, hb9⟩ := H9.out
    obtain ⟨hv, hb8, hln⟩ := HY.out
    have hb18 := below_step HX.out.1 hb8 (Nat.le_refl _)
    have hb19 := below_step hb18 hb9 (Nat.le_refl _)
    have hqn : q.length = (loadS l).length := by rw [← hq, List.length_map]
    obtain ⟨g1, g2, g3⟩ := ref_of (w := W9) (W := W9.alloc (.cells #[.pointer (some ⟨b, ob, none⟩), .int .i64 (s : Int), .int .i64 (o : Int), .int .i64 (kp : Int), .slice A9 (loadS l).length cp9] 133)) (B := W8.heap.size) (r := W9.heap.size) (Bp := ⟨b, ob, none⟩) (s := s) (o := o) (kp := kp) (A := A9) (cp := cp9) (q := q) hb9.size hu hpw hr (Nat.le_refl _) (below_box W9 _) (by rw [heapAlloc, if_pos rfl, hqn])
    exact ⟨.inl ⟨hv.1, hv.2, W9.heap.size, _, q, rfl, hq, g1, g2, fun z hz => g3 z (by have := hb18.size; omega), by have := hb19.size; omega⟩, below_step hb19 (below_box W9 _) (Nat.le_refl _)⟩
end Sl
end Go.Proofs.Ytlknhbcambdccaa
