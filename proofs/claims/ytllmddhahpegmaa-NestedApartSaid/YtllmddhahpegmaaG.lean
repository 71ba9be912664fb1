/- The walks of the search among items, and of Owner. -/
import Derived.Test.YtllmddhahpegmaaF
import Derived.Test.YtllmddhahpegmaaPlain6
namespace Go.Proofs.Ytllmddhahpegmaa
open Go.RowKit
namespace Ne


theorem findIdx_no {p : Item → Bool} {l : List Item} {j : Nat} {x : Item} (h : l[j]? = some x) (hj : j < l.findIdx p) : p x = false := by
  have := List.not_of_lt_findIdx hj
  obtain ⟨hl, rfl⟩ := List.getElem?_eq_some_iff.1 h
  simpa using this
theorem findIdx_yes {p : Item → Bool} {l : List Item} {x : Item} (h : l[l.findIdx p]? = some x) : p x = true := by
  obtain ⟨hl, rfl⟩ := List.getElem?_eq_some_iff.1 h
  exact List.findIdx_getElem (w := hl)

set_option maxHeartbeats 1000000 in
theorem indexFunc_35 (q : Value) (p : Item → Bool) (l : List Item) (A : Option Addr) (c : Nat) (w : World) (hlen : l.length ≤ 200) (hrow : w.ownsRow 0 54 3 (.slice A l.length c) l.length (icells l))
    (hp : ∀ x ∈ l, ∀ w2, Below w.heap.size w w2 → Calls Try.prog 35 #[.agg #[.int .i64 x.a, .int .i64 x.s, .int .i64 x.c], q] w2 fun e w' => e = .returned (.bool (p x)) ∧ Below w2.heap.size w2 w') :
    Calls Try.prog 34 #[.slice A l.length c, .func (.func 35) #[] #[q]] w fun e w' => e = .returned (.int .i64 (fidx p l)) ∧ Below w.heap.size w w' := by
  obtain ⟨hlc, hcm, hcell⟩ := rowCells hrow
  have HP := Lib.hid hp
  have HC := Lib.hid hcell
  have hle : l.findIdx p ≤ l.length := List.findIdx_le_length
  have HNo := Lib.hid (fun j x (h : l[j]? = some x) hj => findIdx_no (p := p) h hj)
  have HYes := Lib.hid (fun x (h : l[l.findIdx p]? = some x) => findIdx_yes h)
  obtain ⟨r, hr⟩ : ∃ r, r = fidx p l := ⟨_, rfl⟩
  rw [← hr]
  unfold fidx at hr
  have HR := Lib.hid hr
  clear hr hcell hp hrow
  unfold maxLen at hcm
  generalize l.findIdx p = k at *
  generalize hL : l.length = L at *
  have HL := Lib.hid hL
  clear hL
  go_enter Try.func34, Try.ntmps34
  go_wp2_with fail
  go_loopw [5, 8] (fun a i wr => ∃ j : Nat, j ≤ k ∧ i = .int .i64 j ∧ Below w.heap.size w wr) (fun _ i _ => L - (intOf i).toNat)
  case atStart => exact ⟨0, Nat.zero_le _, rfl, Below.refl _ _⟩
  case round =>
    obtain ⟨j, hj, rfl, hb⟩ := hrel
    by_cases hjl : j < L
    · obtain ⟨x, hx⟩ : ∃ x, l[j]? = some x := ⟨_, List.getElem?_eq_getElem (by rw [HL.out]; exact hjl)⟩
      have hxm := List.mem_of_getElem? hx
      obtain ⟨g', rfl, hg', k1, k2, k3⟩ := HC.out j x hx
      have k1 := (hb.cell (p := ⟨g', j * 3, none⟩) hg').trans k1
      have k2 := (hb.cell (p := ⟨g', j * 3 + 1, none⟩) hg').trans k2
      have k3 := (hb.cell (p := ⟨g', j * 3 + 2, none⟩) hg').trans k3
      have HCall := Lib.hid (HP.out x hxm wr hb)
      by_cases hjk : j < k
      · have hpx := HNo.out j x hx hjk
        rw [hpx] at HCall
        clear hpx hx
        go_wp2_with (go_at_call 35; refine HCall.out.mono ?_; rintro e w' ⟨rfl, hb1⟩)
        go_roundw
        case rel => exact ⟨j + 1, by omega, by go_num, hb.trans (hb1.mono hb.size)⟩
        case measure => simp [intOf]; omega
      · obtain rfl : j = k := by omega
        have hpx := HYes.out x hx
        rw [hpx] at HCall
        clear hpx hx
        go_wp2_with (go_at_call 35; refine HCall.out.mono ?_; rintro e w' ⟨rfl, hb1⟩)
        go_ret
        exact ⟨by rw [HR.out, if_pos hjl]; rfl, hb.trans (hb1.mono hb.size)⟩
    · obtain rfl : j = L := by omega
      go_wp2
      go_ret
      exact ⟨by rw [HR.out, if_neg (by omega)]; rfl, hb⟩

set_option maxHeartbeats 1000000 in
theorem indexFunc_39 (q : Value) (p : Item → Bool) (l : List Item) (A : Option Addr) (c : Nat) (w : World) (hlen : l.length ≤ 200) (hrow : w.ownsRow 0 54 3 (.slice A l.length c) l.length (icells l))
    (hp : ∀ x ∈ l, ∀ w2, Below w.heap.size w w2 → Calls Try.prog 39 #[.agg #[.int .i64 x.a, .int .i64 x.s, .int .i64 x.c], q] w2 fun e w' => e = .returned (.bool (p x)) ∧ Below w2.heap.size w2 w') :
    Calls Try.prog 34 #[.slice A l.length c, .func (.func 39) #[] #[q]] w fun e w' => e = .returned (.int .i64 (fidx p l)) ∧ Below w.heap.size w w' := by
  obtain ⟨hlc, hcm, hcell⟩ := rowCells hrow
  have HP := Lib.hid hp
  have HC := Lib.hid hcell
  have hle : l.findIdx p ≤ l.length := List.findIdx_le_length
  have HNo := Lib.hid (fun j x (h : l[j]? = some x) hj => findIdx_no (p := p) h hj)
  have HYes := Lib.hid (fun x (h : l[l.findIdx p]? = some x) => findIdx_yes h)
  obtain ⟨r, hr⟩ : ∃ r, r = fidx p l := ⟨_, rfl⟩
  rw [← hr]
  unfold fidx at hr
  have HR := Lib.hid hr
  clear hr hcell hp hrow
  unfold maxLen at hcm
  generalize l.findIdx p = k at *
  generalize hL : l.length = L at *
  have HL := Lib.hid hL
  clear hL
  go_enter Try.func34, Try.ntmps34
  go_wp2_with fail
  go_loopw [5, 8] (fun a i wr => ∃ j : Nat, j ≤ k ∧ i = .int .i64 j ∧ Below w.heap.size w wr) (fun _ i _ => L - (intOf i).toNat)
  case atStart => exact ⟨0, Nat.zero_le _, rfl, Below.refl _ _⟩
  case round =>
    obtain ⟨j, hj, rfl, hb⟩ := hrel
    by_cases hjl : j < L
    · obtain ⟨x, hx⟩ : ∃ x, l[j]? = some x := ⟨_, List.getElem?_eq_getElem (by rw [HL.out]; exact hjl)⟩
      have hxm := List.mem_of_getElem? hx
      obtain ⟨g', rfl, hg', k1, k2, k3⟩ := HC.out j x hx
      have k1 := (hb.cell (p := ⟨g', j * 3, none⟩) hg').trans k1
      have k2 := (hb.cell (p := ⟨g', j * 3 + 1, none⟩) hg').trans k2
      have k3 := (hb.cell (p := ⟨g', j * 3 + 2, none⟩) hg').trans k3
      have HCall := Lib.hid (HP.out x hxm wr hb)
      by_cases hjk : j < k
      · have hpx := HNo.out j x hx hjk
        rw [hpx] at HCall
        clear hpx hx
        go_wp2_with (go_at_call 39; refine HCall.out.mono ?_; rintro e w' ⟨rfl, hb1⟩)
        go_roundw
        case rel => exact ⟨j + 1, by omega, by go_num, hb.trans (hb1.mono hb.size)⟩
        case measure => simp [intOf]; omega
      · obtain rfl : j = k := by omega
        have hpx := HYes.out x hx
        rw [hpx] at HCall
        clear hpx hx
        go_wp2_with (go_at_call 39; refine HCall.out.mono ?_; rintro e w' ⟨rfl, hb1⟩)
        go_ret
        exact ⟨by rw [HR.out, if_pos hjl]; rfl, hb.trans (hb1.mono hb.size)⟩
    · obtain rfl : j = L := by omega
      go_wp2
      go_ret
      exact ⟨by rw [HR.out, if_neg (by omega)]; rfl, hb⟩

set_option maxHeartbeats 400000 in
theorem isChild_ok (w : World) (q : Nat) (x : Item) (y : Int) (hq : w.cell? ⟨q, 0, none⟩ = some (.int .i64 y)) :
    Calls Try.prog 39 #[.agg #[.int .i64 x.a, .int .i64 x.s, .int .i64 x.c], .pointer (some ⟨q, 0, none⟩)] w fun e w' => e = .returned (.bool (x.c == y)) ∧ Below w.heap.size w w' := by
  have hlt : q < w.heap.size := World.block_lt_of_cell? w _ hq
  go_enter Try.func39, Try.ntmps39
  go_wp2
  go_ret
  exact ⟨rfl, (Below.refl _ _).alloc (Nat.le_refl _) _⟩

def hasByte (y : Int) (x : Item) : Bool := decide (x.a ≤ y) && decide (y < x.a + x.s)

set_option maxHeartbeats 400000 in
theorem hasByte_ok (w : World) (q : Nat) (x : Item) (y : Int) (hq : w.cell? ⟨q, 0, none⟩ = some (.int .i64 y)) (h1 : 0 ≤ x.a) (h2 : 0 ≤ x.s) (h3 : x.a + x.s ≤ 65536) :
    Calls Try.prog 35 #[.agg #[.int .i64 x.a, .int .i64 x.s, .int .i64 x.c], .pointer (some ⟨q, 0, none⟩)] w fun e w' => e = .returned (.bool (hasByte y x)) ∧ Below w.heap.size w w' := by
  have hlt : q < w.heap.size := World.block_lt_of_cell? w _ hq
  generalize hr : hasByte y x = r
  unfold hasByte at hr
  have HR := Lib.hid hr
  clear hr
  by_cases c1 : x.a ≤ y
  · by_cases c2 : y < x.a + x.s
    all_goals
      go_enter Try.func35, Try.ntmps35
      go_wp2
      go_ret
      exact ⟨by rw [← HR.out]; simp [c1, c2], (Below.refl _ _).alloc (Nat.le_refl _) _⟩
  · go_enter Try.func35, Try.ntmps35
    go_wp2
    go_ret
    exact ⟨by rw [← HR.out, decide_eq_false (show ¬ x.a ≤ y by omega)]; rfl, (Below.refl _ _).alloc (Nat.le_refl _) _⟩

/-- The innermost arena that has a byte, and its item. -/
def Owns (M : Tr) (y : Int) (k : Nat) (i : Int) : Prop :=
  ∃ n, M[k]? = some (some n) ∧ n.a ≤ y ∧ y < n.a + n.s ∧ i = fidx (hasByte y) n.l ∧ ∀ x, 0 ≤ i → n.l[i.toNat]? = some x → x.c < 0

theorem fidx_at {p : Item → Bool} {l : List Item} (h : 0 ≤ fidx p l) : ∃ (j : Nat) (x : Item), fidx p l = (j : Int) ∧ j < l.length ∧ l[j]? = some x ∧ p x = true := by
  unfold fidx at h ⊢
  split at h
  · next hl =>
    rw [if_pos hl]
    exact ⟨_, l[l.findIdx p], rfl, hl, List.getElem?_eq_getElem hl, List.findIdx_getElem (w := hl)⟩
  · omega

theorem fidx_lt {p : Item → Bool} {l : List Item} (h : ¬ 0 ≤ fidx p l) : fidx p l = -1 := by
  unfold fidx at h ⊢
  split at h
  · omega
  · next hl => rw [if_neg hl]

set_option maxHeartbeats 400000 in
theorem owner_out (w : World) (own : Nat → Option Nat) (t g cap : Nat) (cs : Array Value) (M : Tr) (y : Int) (r : Node) (h : TreeAt w own t g cap cs M) (hg : Good M) (hr : M[0]? = some (some r)) (hy : y < 0 ∨ r.s ≤ y) :
    Calls Try.prog 14 #[.pointer (some ⟨t, 0, none⟩), .int .i64 y] w fun e w' => e = .returned (.tuple #[.int .i64 0, .int .i64 0, .int .i64 7]) ∧ Below w.heap.size w w' := by
  have hp := hg.pos
  have hm := hg.len
  have hlen := h.len
  have hmost := h.most
  unfold maxLen at hmost
  have hT : w.cell? ⟨t, 0, none⟩ = some (.slice (some ⟨g, 0, none⟩) M.length cap) := by simp [World.cell?, h.top]
  have htl := lt_of_heap h.top
  have hgl := lt_of_heap h.row
  obtain ⟨v, hv, b, iv, rfl, hob, hbh, hil⟩ := h.node _ _ hr
  have hN : w.cell? ⟨g, 0, none⟩ = some (.pointer (some ⟨b, 0, none⟩)) := by rw [cell_of_row w g _ cs _ _ h.row, hv]
  obtain ⟨c0, c1, c2, c3, c4, _⟩ := nodeOpen hbh
  have hbl := lt_of_heap hbh
  have HM := fun w2 (hw : w2.cell? ⟨t, 0, none⟩ = some (.slice (some ⟨g, 0, none⟩) M.length cap)) => made_ok w2 t _ _ _ hp hw
  have HMM := Lib.hid HM
  clear h hg hr hbh hil hv hob HM
  generalize M.length = L at *
  by_cases hy0 : y < 0
  · go_enter Try.func14, Try.ntmps14
    go_wp2_with (go_at_call 29; refine (HMM.out _ (by rw [World.cell?_alloc_lt _ _ _ htl]; exact hT)).mono ?_; rintro e w' ⟨rfl, rfl⟩)
    go_quiet (fail)
    go_wp2
    go_ret3
    exact ⟨rfl, below_drewN ((Below.refl _ _).alloc (Nat.le_refl _) _) _⟩
  · have hy1 : r.s ≤ y := by omega
    have hd : decide (y < 0) = false := by simpa using hy0
    go_enter Try.func14, Try.ntmps14
    go_wp2_with (go_at_call 29; refine (HMM.out _ (by rw [World.cell?_alloc_lt _ _ _ htl]; exact hT)).mono ?_; rintro e w' ⟨rfl, rfl⟩)
    go_quiet (fail)
    go_wp2
    go_ret3
    exact ⟨rfl, below_drewN ((Below.refl _ _).alloc (Nat.le_refl _) _) _⟩
end Ne
end Go.Proofs.Ytllmddhahpegmaa
