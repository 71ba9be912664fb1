/- slices.Contains on integers; slices.Values and its closure. -/
import Derived.Test.YtllmddhahpegmaaAA
import Derived.Test.YtllmddhahpegmaaAC
namespace Go.Proofs.Ytllmddhahpegmaa
open Go.RowKit
namespace Ne

/-- The cells of a row of numbers. -/
theorem nints_cell {w : World} {B n : Nat} {A : Option Addr} {c : Nat} {l : List Nat} (h : w.ownsRow B 3 1 (.slice A n c) n (nints l)) (hn : l.length = n) (j a : Nat) (hj : l[j]? = some a) :
    ∃ g, A = some ⟨g, 0, none⟩ ∧ B ≤ g ∧ g < w.heap.size ∧ w.cell? ⟨g, j, none⟩ = some (.int .i64 (a : Int)) := by
  have hjl := (List.getElem?_eq_some_iff.1 hj).1
  rcases h.2 with ⟨_, e2⟩ | ⟨g5, cap, _, e1, e0, e2, _⟩
  · omega
  · injection e1 with e1 e3 e4
    subst e1 e4
    have hc := h.cellAt j (by simp [nints]; omega)
    rw [nints, List.getElem?_map, hj] at hc
    exact ⟨g5, rfl, e0, lt_of_heap e2, hc⟩

theorem row_le {w : World} {B n : Nat} {A : Option Addr} {c : Nat} {xs : List Value} (h : w.ownsRow B 3 1 (.slice A n c) n xs) : n ≤ c ∧ c ≤ maxLen := by
  rcases h.2 with ⟨e1, e2⟩ | ⟨g, cap, _, e1, _, _, e3, e4, _⟩
  · injection e1 with e0 e1 e2
    subst e2
    exact ⟨by omega, Nat.zero_le _⟩
  · injection e1 with e0 e1 e2
    subst e2
    exact ⟨e3, e4⟩

set_option maxHeartbeats 1000000 in
theorem indexI_ok (w : World) (B : Nat) (A : Option Addr) (c : Nat) (l : List Nat) (k : Int) (h : w.ownsRow B 3 1 (.slice A l.length c) l.length (nints l)) :
    Calls Try.prog 67 #[.slice A l.length c, .int .i64 k] w fun e w' => (∃ i : Int, e = .returned (.int .i64 i) ∧ (0 ≤ i ↔ ∃ a ∈ l, (a : Int) = k)) ∧ w = w' := by
  obtain ⟨hlc, hcm⟩ := row_le h
  unfold maxLen at hcm
  have HC := Lib.hid fun j a => nints_cell h rfl j a
  clear h
  generalize hn : l.length = n at *
  have HN := Lib.hid hn
  clear hn
  go_enter Try.func67, Try.ntmps67
  go_wp2
  go_loop [5, 8] (fun _ i => ∃ j : Nat, j ≤ n ∧ i = .int .i64 j ∧ ∀ m a, m < j → l[m]? = some a → (a : Int) ≠ k) (fun _ i => n - (intOf i).toNat)
  case atStart => exact ⟨0, Nat.zero_le _, rfl, fun m a hm => by omega⟩
  case round =>
    obtain ⟨j, hj, rfl, hno⟩ := hrel
    have HNo := Lib.hid hno
    clear hno
    by_cases hjl : j < n
    · obtain ⟨a, ha⟩ : ∃ a, l[j]? = some a := ⟨_, List.getElem?_eq_getElem (by rw [HN.out]; exact hjl)⟩
      obtain ⟨g, rfl, _, _, hc⟩ := HC.out j a ha
      have HA := Lib.hid ha
      clear ha
      by_cases hk : k = (a : Int)
      · have hb : (k == (a : Int)) = true := by rw [beq_iff_eq]; exact hk
        have HK := Lib.hid hk
        clear hk
        go_wp2
        go_ret
        exact ⟨⟨j, rfl, by constructor; (intro _; exact ⟨a, List.mem_of_getElem? HA.out, HK.out.symm⟩); (intro _; omega)⟩, rfl⟩
      · have hb : (k == (a : Int)) = false := by rw [beq_eq_false_iff_ne]; exact hk
        have HK := Lib.hid hk
        clear hk
        go_wp2
        go_round
        case rel =>
          refine ⟨j + 1, by omega, by go_num, fun m b hm hb' => ?_⟩
          by_cases e : m = j
          · subst e
            rw [HA.out] at hb'
            injection hb' with hb'
            subst hb'
            exact fun x => HK.out x.symm
          · exact HNo.out m b (by omega) hb'
        case measure => simp [intOf]; omega
    · obtain rfl : j = n := by omega
      go_wp2
      go_ret
      refine ⟨⟨-1, rfl, by constructor; (intro x; omega); rintro ⟨a, ha, e⟩; obtain ⟨m, hm⟩ := List.getElem?_of_mem ha; exact absurd e (HNo.out m a (by have := (List.getElem?_eq_some_iff.1 hm).1; have := HN.out; omega) hm)⟩, rfl⟩

open Classical in
theorem contains_ok (w : World) (B : Nat) (A : Option Addr) (c : Nat) (l : List Nat) (k : Int) (h : w.ownsRow B 3 1 (.slice A l.length c) l.length (nints l)) :
    Calls Try.prog 56 #[.slice A l.length c, .int .i64 k] w fun e w' => e = .returned (.bool (decide (∃ a ∈ l, (a : Int) = k))) ∧ w = w' := by
  have HI := Lib.hid (indexI_ok w B A c l k h)
  clear h
  obtain ⟨b, hb⟩ : ∃ b, b = decide (∃ a ∈ l, (a : Int) = k) := ⟨_, rfl⟩
  rw [← hb]
  have HB := Lib.hid hb
  clear hb
  go_enter Try.func56, Try.ntmps56
  go_wp2_with (go_at_call 67; fail)
  refine HI.out.mono ?_
  rintro e w1 ⟨⟨i, rfl, hi⟩, rfl⟩
  have hbb : decide (0 ≤ i) = b := by rw [HB.out]; exact decide_eq_decide.2 hi
  have HBB := Lib.hid hbb
  clear hi hbb
  go_wp2
  go_ret
  refine ⟨?_, rfl⟩
  rw [← HBB.out]; rfl

/-- slices.Values. -/
theorem values_ok (w : World) (A : Option Addr) (m c : Nat) :
    Calls Try.prog 57 #[.slice A m c] w fun e w' => e = .returned (.func (.func 68) #[] #[.pointer (some ⟨w.heap.size, 0, none⟩)]) ∧ w' = w.alloc (.cells #[.slice A m c] 36) := by
  go_enter Try.func57, Try.ntmps57
  go_wp2
  go_ret
  exact ⟨rfl, rfl⟩
end Ne
end Go.Proofs.Ytllmddhahpegmaa
