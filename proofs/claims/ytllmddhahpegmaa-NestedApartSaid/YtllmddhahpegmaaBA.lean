/- The reference: Open, times, rooted, Chain. -/
import Derived.Test.YtllmddhahpegmaaAF
import Derived.Test.YtllmddhahpegmaaPlain12
namespace Go.Proofs.Ytllmddhahpegmaa
open Go.RowKit
namespace Ne

theorem save_length (M : Tr) : (save M).length = M.length := by simp [save]

theorem st_at {K : Nat → Prop} {w : World} {A : Option Addr} {c : Nat} {M : Tr} (h : StK K w A c (save M)) {j : Nat} {o : Option Node} (hj : M[j]? = some o) :
    ∃ g f B cB, A = some ⟨g, f, none⟩ ∧ g < w.heap.size ∧ w.cell? ⟨g, f + j * 5, none⟩ = some (.int .i64 (saveNode o).p) ∧ w.cell? ⟨g, f + j * 5 + 1, none⟩ = some (.int .i64 (saveNode o).a) ∧ w.cell? ⟨g, f + j * 5 + 2, none⟩ = some (.int .i64 (saveNode o).s) ∧
      w.cell? ⟨g, f + j * 5 + 3, none⟩ = some (.slice B (saveNode o).l.length cB) ∧ w.cell? ⟨g, f + j * 5 + 4, none⟩ = some (.bool (saveNode o).cl) ∧ RowK K w B cB (saveNode o).l := by
  obtain ⟨g, f, B, cB, rfl, _, ⟨cur, hcur⟩, p0, p1, p2, p3, p4, hR⟩ := h.2.2 j (saveNode o) (by rw [save, List.getElem?_map, hj]; rfl)
  exact ⟨g, f, B, cB, rfl, lt_of_heap hcur, p0, p1, p2, p3, p4, hR⟩

theorem row_at {K : Nat → Prop} {w : World} {A : Option Addr} {c : Nat} {l : List Item} (h : RowK K w A c l) {j : Nat} {x : Item} (hj : l[j]? = some x) :
    ∃ g f, A = some ⟨g, f, none⟩ ∧ g < w.heap.size ∧ w.cell? ⟨g, f + j * 3, none⟩ = some (.int .i64 x.a) ∧ w.cell? ⟨g, f + j * 3 + 1, none⟩ = some (.int .i64 x.s) ∧ w.cell? ⟨g, f + j * 3 + 2, none⟩ = some (.int .i64 x.c) := by
  obtain ⟨g, f, rfl, _, ⟨cur, hcur⟩, s0, s1, s2⟩ := h.2.2 j x hj
  exact ⟨g, f, rfl, lt_of_heap hcur, s0, s1, s2⟩

theorem st_len {K : Nat → Prop} {w : World} {A : Option Addr} {c : Nat} {M : Tr} (h : StK K w A c (save M)) : M.length ≤ c ∧ c ≤ 9223372036854775807 := by
  obtain ⟨h1, h2, _⟩ := h
  rw [save_length] at h1
  unfold maxLen at h2
  exact ⟨h1, by omega⟩

theorem row_len {K : Nat → Prop} {w : World} {A : Option Addr} {c : Nat} {l : List Item} (h : RowK K w A c l) : l.length ≤ c ∧ c ≤ 9223372036854775807 := by
  obtain ⟨h1, h2, _⟩ := h
  unfold maxLen at h2
  exact ⟨h1, by omega⟩

theorem below_box (w : World) (ob : Obj) : Below w.heap.size w (w.alloc ob) := (Below.refl _ _).alloc (Nat.le_refl _) _

set_option maxHeartbeats 1000000 in
theorem open_yes (K : Nat → Prop) (w : World) (A : Option Addr) (c : Nat) (M : Tr) (i : Int) (n : Node) (h : StK K w A c (save M)) (hf : find M i = some n) :
    Calls Try.prog 52 #[.agg #[.slice A M.length c], .int .i64 i] w fun e w' => e = .returned (.bool true) ∧ Below w.heap.size w w' := by
  obtain ⟨h0, hi⟩ := find_some hf
  obtain ⟨k, rfl⟩ := Int.eq_ofNat_of_zero_le h0
  rw [Int.toNat_natCast] at hi
  have hk := (List.getElem?_eq_some_iff.1 hi).1
  obtain ⟨hc1, hc2⟩ := st_len h
  obtain ⟨g, f, B, cB, rfl, hg, _, _, _, _, p4, _⟩ := st_at h hi
  replace p4 : (w.alloc (.cells #[.slice (some ⟨g, f, none⟩) M.length c] 28)).cell? ⟨g, f + k * 5 + 4, none⟩ = some (.bool false) := ((below_box w _).cell (p := ⟨g, _, none⟩) hg).trans p4
  clear h hf hi
  go_enter Try.func52, Try.ntmps52
  go_wp2
  go_ret
  exact ⟨rfl, below_box _ _⟩

set_option maxHeartbeats 1000000 in
theorem open_no (K : Nat → Prop) (w : World) (A : Option Addr) (c : Nat) (M : Tr) (i : Int) (h : StK K w A c (save M)) (hf : find M i = none) :
    Calls Try.prog 52 #[.agg #[.slice A M.length c], .int .i64 i] w fun e w' => e = .returned (.bool false) ∧ Below w.heap.size w w' := by
  obtain ⟨hc1, hc2⟩ := st_len h
  by_cases h0 : i < 0
  · clear h hf
    go_enter Try.func52, Try.ntmps52
    go_wp2
    go_ret
    exact ⟨rfl, below_box _ _⟩
  · obtain ⟨k, rfl⟩ := Int.eq_ofNat_of_zero_le (show 0 ≤ i by omega)
    by_cases hk : k < M.length
    · have hi : M[k]? = some none := by
        obtain ⟨o, ho⟩ : ∃ o, M[k]? = some o := ⟨_, List.getElem?_eq_getElem hk⟩
        unfold find at hf
        rw [if_neg h0, Int.toNat_natCast, ho] at hf
        rw [ho, show o = none from hf]
      obtain ⟨g, f, B, cB, rfl, hg, _, _, _, _, p4, _⟩ := st_at h hi
      replace p4 : (w.alloc (.cells #[.slice (some ⟨g, f, none⟩) M.length c] 28)).cell? ⟨g, f + k * 5 + 4, none⟩ = some (.bool true) := ((below_box w _).cell (p := ⟨g, _, none⟩) hg).trans p4
      clear h hf hi h0
      go_enter Try.func52, Try.ntmps52
      go_wp2
      go_ret
      exact ⟨rfl, below_box _ _⟩
    · clear h hf h0
      go_enter Try.func52, Try.ntmps52
      go_wp2
      go_ret
      exact ⟨rfl, below_box _ _⟩

/-- How often an arena is an item of another one. -/
def countOf (k : Int) (l : List Item) : Nat := (l.filter fun x => x.c == k).length

theorem countOf_next (k : Int) (l : List Item) (j : Nat) (x : Item) (h : l[j]? = some x) : countOf k (l.take (j + 1)) = countOf k (l.take j) + if x.c == k then 1 else 0 := by
  unfold countOf
  rw [List.take_add_one, h]
  simp [List.filter_append, List.filter_cons]
  split <;> simp

theorem countOf_le (k : Int) (l : List Item) : countOf k l ≤ l.length := List.length_filter_le _ _

set_option maxHeartbeats 1000000 in
theorem times_ok (K : Nat → Prop) (w : World) (A : Option Addr) (c : Nat) (M : Tr) (q : Nat) (n : Node) (k : Int) (h : StK K w A c (save M)) (hq : M[q]? = some (some n)) (hl : n.l.length ≤ 200) :
    Calls Try.prog 53 #[.agg #[.slice A M.length c], .int .i64 q, .int .i64 k] w fun e w' => e = .returned (.int .i64 (countOf k n.l)) ∧ Below w.heap.size w w' := by
  have hk := (List.getElem?_eq_some_iff.1 hq).1
  obtain ⟨hc1, hc2⟩ := st_len h
  obtain ⟨g, f, B, cB, rfl, hg, _, _, _, p3, _, hR⟩ := st_at h hq
  obtain ⟨hr1, hr2⟩ := row_len hR
  replace p3 : (w.alloc (.cells #[.slice (some ⟨g, f, none⟩) M.length c] 28)).cell? ⟨g, f + q * 5 + 3, none⟩ = some (.slice B n.l.length cB) := ((below_box w _).cell (p := ⟨g, _, none⟩) hg).trans p3
  have hr1 : n.l.length ≤ cB := hr1
  have HR := Lib.hid (show RowK K w B cB n.l from hR)
  clear h hq hR
  go_enter Try.func53, Try.ntmps53
  go_wp2
  go_loop [7, 8] (fun s i => ∃ j : Nat, j ≤ n.l.length ∧ i = .int .i64 j ∧ ∃ m : Nat, s = .int .i64 m ∧ m = countOf k (n.l.take j)) (fun _ i => n.l.length - (intOf i).toNat)
  case atStart => exact ⟨0, Nat.zero_le _, rfl, 0, rfl, rfl⟩
  case round =>
    obtain ⟨j, hj, rfl, m, rfl, hm⟩ := hrel
    have hm' : m ≤ 200 := by
      have := countOf_le k (n.l.take j)
      rw [List.length_take] at this
      omega
    have HM := Lib.hid hm
    clear hm
    by_cases hjl : j < n.l.length
    · obtain ⟨x, hx⟩ : ∃ x, n.l[j]? = some x := ⟨_, List.getElem?_eq_getElem hjl⟩
      obtain ⟨g2, f2, rfl, hg2, _, _, s2⟩ := row_at HR.out hx
      replace s2 : (w.alloc (.cells #[.slice (some ⟨g, f, none⟩) M.length c] 28)).cell? ⟨g2, f2 + j * 3 + 2, none⟩ = some (.int .i64 x.c) := ((below_box w _).cell (p := ⟨g2, _, none⟩) hg2).trans s2
      have HN := Lib.hid (countOf_next k n.l j x hx)
      clear hx
      by_cases hc : x.c = k
      · have hb : (x.c == k) = true := by rw [beq_iff_eq]; exact hc
        have HB := Lib.hid hb
        clear hc
        go_wp2
        go_round
        case rel => exact ⟨j + 1, by omega, by go_num, m + 1, by go_num, by rw [HN.out, HB.out, HM.out]; rfl⟩
        case measure => simp [intOf]; omega
      · have hb : (x.c == k) = false := by rw [beq_eq_false_iff_ne]; exact hc
        have HB := Lib.hid hb
        clear hc
        go_wp2
        go_round
        case rel => exact ⟨j + 1, by omega, by go_num, m, rfl, by rw [HN.out, HB.out, HM.out]; rfl⟩
        case measure => simp [intOf]; omega
    · obtain rfl : j = n.l.length := by omega
      go_wp2
      go_ret
      refine ⟨?_, below_box _ _⟩
      have := HM.out
      rw [List.take_length] at this
      rw [← this]; rfl
end Ne
end Go.Proofs.Ytllmddhahpegmaa
