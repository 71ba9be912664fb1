/- Owner. -/
import Derived.Test.YtdanhbbdkcbapaaSK
namespace Go.Proofs.Ytdanhbbdkcbapaa
open Go.RowKit
namespace Bu

/-- What Owner hands back. -/
def OwnerV (page : Nat) : Option Nat → Value
  | some k => .tuple #[.agg #[.int .i64 ((page / 2 ^ k * 2 ^ k : Nat) : Int), .int .i64 (k : Int)], .int .i64 0]
  | none => .tuple #[.agg #[.int .i64 0, .int .i64 0], .int .i64 4]

theorem two_cells {w : World} {b T : Nat} {x y : Value} (h : w.heap[b]? = some (.cells #[x, y] T (0, 0))) : w.cell? ⟨b, 0, none⟩ = some x ∧ w.cell? ⟨b, 1, none⟩ = some y ∧ w.frozen? ⟨b, 0, none⟩ = false ∧ w.frozen? ⟨b, 1, none⟩ = false := by
  refine ⟨?_, ?_, ?_, ?_⟩ <;> simp [World.cell?, World.frozen?, h]

set_option maxRecDepth 100000 in
set_option maxHeartbeats 2000000 in
theorem owner_ok (w : World) (b N page : Nat) (Fr Gv : Nat → Nat → Bool) (hB : Bu w b N Fr Gv) (hN : N ≤ 10) (hp : page < 2 ^ N) :
    Calls Try.prog 23 #[.pointer (some ⟨b, 0, none⟩), .int .i64 page] w fun e w' => e = .returned (OwnerV page (fromK Gv page 0 11)) ∧ Below w.heap.size w w' := by
  have hbl := hB.lt
  have h1024 : 2 ^ N ≤ 1024 := by
    have : 2 ^ N ≤ 2 ^ 10 := Nat.pow_le_pow_right (by omega) hN
    omega
  obtain ⟨W1, hW1⟩ : ∃ W1, W1 = w.alloc (.cells #[.int .i64 0, .int .i64 0] 39) := ⟨_, rfl⟩
  have hbW : Below w.heap.size w W1 := by rw [hW1]; exact below_box w _
  have hcell : W1.heap[w.heap.size]? = some (.cells #[.int .i64 0, .int .i64 0] 39 (0, 0)) := by rw [hW1]; exact heap_alloc_new _ _
  obtain ⟨y0, y1, z0, z1⟩ := two_cells hcell
  have hB1 : Bu W1 b N Fr Gv := hB.keep (hbW.block b hbl)
  have hc1 := hB1.head.2
  have HIs := Lib.hid (is_ok W1 b N Fr Gv hB1)
  obtain ⟨M, hM⟩ : ∃ M : Nat, M = 2 ^ N := ⟨_, rfl⟩
  have hpw := pow_w64 N (by omega)
  rw [← hM] at hpw hp h1024
  have hp2 : page < 1024 := by omega
  have e3 : ¬ (page : Int) < 0 := by omega
  have e4 : ¬ (M : Int) ≤ (page : Int) := by omega
  have e5 : (0 : Int) ≤ (N : Int) := by omega
  have hd4 : decide (M ≤ page) = false := by simp; omega
  have hd3 : decide ((page : Int) < 0) = false := by simp
  obtain ⟨r, hr⟩ : ∃ r, r = fromK Gv page 0 11 := ⟨_, rfl⟩
  rw [← hr]
  have HB := Lib.hid (And.intro hB1 (And.intro hbW hr))
  clear hB hB1 hbW hM hr
  go_enter Try.func23, Try.ntmps23
  go_wp2_with (fail)
  rw [← hW1]
  clear hW1
  go_wp2_with (go_at_call 29; refine HIs.out.mono ?_; rintro e w' ⟨rfl, rfl⟩)
  simp only [hpw]
  clear hpw
  go_loopw [24] (fun i wr => ∃ k : Nat, k ≤ 11 ∧ i = .int .i64 k ∧ r = fromK Gv page k (11 - k) ∧ W1 = wr) (fun i _ => 11 - (intOf i).toNat)
  case atStart => exact ⟨0, by omega, rfl, HB.out.2.2, rfl⟩
  case round =>
    obtain ⟨k, hk, rfl, hr, rfl⟩ := hrel
    by_cases hlt : k < 11
    · have hoff : page / 2 ^ k * 2 ^ k < 1024 := Nat.lt_of_le_of_lt (Nat.div_mul_le_self _ _) hp2
      have hoffv : bits .andNot .i64 (page : Int) (wrap64 (wrap64 ((2 : Int) ^ k) - 1)) = ((page / 2 ^ k * 2 ^ k : Nat) : Int) := by rw [← w64, ← w64]; exact off_val page k hp2 (by omega)
      obtain ⟨p, hpp⟩ : ∃ p, p = page / 2 ^ k * 2 ^ k := ⟨_, rfl⟩
      have HH := Lib.hid (has_ok W1 b (178 + k * 16) (page / 2 ^ k * 2 ^ k) (Gv k) (HB.out.1.given (by omega)) hoff)
      have e1 : (0 : Int) ≤ (k : Int) := by omega
      have e2 : (k : Int) < 11 := by omega
      rw [show 11 - k = (11 - (k + 1)) + 1 by omega, fromK] at hr
      rw [← hpp] at hoffv HH hr
      cases hS : Gv k p with
      | true =>
        rw [hS] at HH
        rw [hS, if_pos rfl] at hr
        have HR := Lib.hid (And.intro hr hpp)
        clear hr hpp hoff
        go_wp2_with (go_at_call 35; refine HH.out.mono ?_; rintro e w' ⟨rfl, rfl⟩)
        have hq := two_cells (w := (W1.setCell ⟨w.heap.size, 0, none⟩ (.int .i64 (p : Int))).setCell ⟨w.heap.size, 1, none⟩ (.int .i64 (k : Int))) (setCell_at _ _ _ _ _ _ (setCell_at _ _ _ _ _ _ hcell))
        obtain ⟨q0, q1, _, _⟩ := hq
        refine bodyPost_ret (v := .tuple #[.agg #[.int .i64 p, .int .i64 k], .int .i64 0]) (by simp [results, Try.results23, go_sem, q0, q1]) rfl ⟨?_, (HB.out.2.1.setCell (p := ⟨w.heap.size, 0, none⟩) (Nat.le_refl _) _).setCell (p := ⟨w.heap.size, 1, none⟩) (Nat.le_refl _) _⟩
        rw [HR.out.1, HR.out.2]; rfl
      | false =>
        rw [hS] at HH
        rw [hS, if_neg (by decide)] at hr
        have HR2 := Lib.hid hr
        clear hr hpp hoff
        go_wp2_with (go_at_call 35; refine HH.out.mono ?_; rintro e w' ⟨rfl, rfl⟩)
        go_roundw
        case rel => exact ⟨k + 1, by omega, by go_num, HR2.out, trivial⟩
        case measure => simp [intOf]; omega
    · obtain rfl : k = 11 := by omega
      rw [Nat.sub_self, fromK] at hr
      subst hr
      go_wp2
      have hq := two_cells (w := (W1.setCell ⟨w.heap.size, 0, none⟩ (.int .i64 0)).setCell ⟨w.heap.size, 1, none⟩ (.int .i64 0)) (setCell_at _ _ _ _ _ _ (setCell_at _ _ _ _ _ _ hcell))
      obtain ⟨q0, q1, _, _⟩ := hq
      exact bodyPost_ret (v := .tuple #[.agg #[.int .i64 0, .int .i64 0], .int .i64 4]) (by simp [results, Try.results23, go_sem, q0, q1]) rfl ⟨rfl, (HB.out.2.1.setCell (p := ⟨w.heap.size, 0, none⟩) (Nat.le_refl _) _).setCell (p := ⟨w.heap.size, 1, none⟩) (Nat.le_refl _) _⟩
theorem block_info : (Try.prog.info? 39).map (fun i => (i.zero.isSome, i.zero.map (fun z => z.cells.size), i.size, i.bytes)) = some (true, some 2, 2, 16) := by kernel_rfl
theorem two_new (V : World) (x y : Value) (T : TypeId) (i : Nat) (u : Value) (h : [x, y][i]? = some u) : (V.alloc (.cells #[x, y] T)).cell? ((⟨V.heap.size, 0, none⟩ : Addr).add i) = some u := by
  obtain ⟨h0, h1, _, _⟩ := two_cells (show (V.alloc (.cells #[x, y] T)).heap[V.heap.size]? = some (.cells #[x, y] T (0, 0)) by rw [heapAlloc, if_pos rfl])
  match i, h with
  | 0, h => injection h with h; subst h; exact h0
  | 1, h => injection h with h; subst h; exact h1
  | n + 2, h => cases h

end Bu
end Go.Proofs.Ytdanhbbdkcbapaa
