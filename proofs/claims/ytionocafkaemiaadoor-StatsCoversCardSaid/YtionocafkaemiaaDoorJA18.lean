/- Comparing areas; the closure that tells where a run ends. -/
import Derived.Test.YtionocafkaemiaaDoorJA13
import Derived.Test.YtionocafkaemiaaDoorK0
namespace Go.Proofs.YtionocafkaemiaaDoor
open Go.RowKit Go.Lib
namespace Sx
attribute [local irreducible] wpQuiet

/-- The area of a number: what cannot be had is -1, 0. -/
def arOf (v : Int) : Ar := ⟨v / 1000000000000, v % 1000000000000⟩
theorem arOf_prod (v n : Int) : prodV v n = arOf (v * n) := rfl
theorem arOf_plus (a b : Int) : plusV (arOf a) (arOf b) = arOf (a + b) := by
  unfold plusV arOf
  rw [ar_ext]
  dsimp only
  omega
theorem arOf_ok {v : Int} (h0 : 0 ≤ v) (h1 : v ≤ 1000000000000000000000000) : (arOf v).Ok 1000000000000 := by
  unfold arOf
  exact ⟨by dsimp only; omega, by dsimp only; omega, by dsimp only; omega, by dsimp only; omega⟩
theorem arOf_inj {a b : Int} : arOf a = arOf b ↔ a = b := by
  unfold arOf
  rw [ar_ext]
  dsimp only
  omega
theorem arOf_none : arOf nonE = ⟨-1, 0⟩ := by decide
def cmpA (a b : Ar) : Int := if cmpV a.h b.h ≠ 0 then cmpV a.h b.h else cmpV a.l b.l
theorem cmpA_lt {a b : Int} : cmpA (arOf a) (arOf b) < 0 ↔ a < b := by
  unfold cmpA arOf
  dsimp only
  split
  · next h => rw [cmpV_lt]; rw [Ne, cmpV_eq] at h; omega
  · next h => rw [cmpV_lt]; rw [Classical.not_not, cmpV_eq] at h; omega
theorem i64s_info : (Tryd.prog.info? 3).map (fun i => (i.zero.isSome, i.zero.map (fun z => z.cells.size), i.size, i.bytes)) = some (true, some 1, 1, 8) := by kernel_rfl
set_option maxRecDepth 100000 in
theorem or_ok (w : World) (g : Nat) (x y : Int) (h : w.heap[g]? = some (.cells #[.int .i64 x, .int .i64 y] 3 (0, 0))) :
    Calls Tryd.prog 80 #[.slice (some ⟨g, 0, none⟩) 2 2] w fun e w' => e = .returned (.int .i64 (if x ≠ 0 then x else y)) ∧ w = w' := by
  obtain ⟨c0, c1⟩ := two_at h
  by_cases hx : x = 0
  · subst hx
    rw [if_neg (by simp)]
    by_cases hy : y = 0
    · subst hy
      go_enter Tryd.func80, Tryd.ntmps80
      go_wp2_with (fail)
      go_loop [8] (fun i => ∃ k : Nat, k ≤ 2 ∧ i = .int .i64 (k : Int)) (fun i => 2 - (RowKit.intOf i).toNat)
      case atStart => exact ⟨0, by omega, rfl⟩
      case round =>
        obtain ⟨k, hk, rfl⟩ := hrel
        obtain rfl | rfl | rfl : k = 0 ∨ k = 1 ∨ k = 2 := by omega
        · go_wp2_with (fail)
          go_round
          case rel => exact ⟨1, by omega, rfl⟩
          case measure => simp [RowKit.intOf]
        · go_wp2_with (fail)
          go_round
          case rel => exact ⟨2, by omega, rfl⟩
          case measure => simp [RowKit.intOf]
        · go_wp2_with (fail)
          go_ret
          exact ⟨rfl, rfl⟩
    · have hy2 : (y != 0) = true := by simp [hy]
      go_enter Tryd.func80, Tryd.ntmps80
      go_wp2_with (fail)
      go_loop [8] (fun i => ∃ k : Nat, k ≤ 1 ∧ i = .int .i64 (k : Int)) (fun i => 2 - (RowKit.intOf i).toNat)
      case atStart => exact ⟨0, by omega, rfl⟩
      case round =>
        obtain ⟨k, hk, rfl⟩ := hrel
        obtain rfl | rfl : k = 0 ∨ k = 1 := by omega
        · go_wp2_with (fail)
          go_round
          case rel => exact ⟨1, by omega, rfl⟩
          case measure => simp [RowKit.intOf]
        · go_wp2_with (fail)
          go_ret
          exact ⟨rfl, rfl⟩
  · rw [if_pos hx]
    have hx2 : (x != 0) = true := by simp [hx]
    go_enter Tryd.func80, Tryd.ntmps80
    go_wp2_with (fail)
    go_loop [8] (fun i => i = .int .i64 ((0 : Nat) : Int)) (fun i => 2 - (RowKit.intOf i).toNat)
    case atStart => rfl
    case round =>
      subst hrel
      go_wp2_with (fail)
      go_ret
      exact ⟨rfl, rfl⟩
theorem C4.new {w1 : World} {b1 b2 : Nat} {x y z v : Value} {ob : Obj} (s : w1.cell? ⟨b1, 0, none⟩ = some x ∧ w1.cell? ⟨b1, 1, none⟩ = some y ∧ w1.cell? ⟨b2, 0, none⟩ = some z ∧ w1.cell? ⟨b2, 1, none⟩ = some v) :
    (w1.alloc ob).cell? ⟨b1, 0, none⟩ = some x ∧ (w1.alloc ob).cell? ⟨b1, 1, none⟩ = some y ∧ (w1.alloc ob).cell? ⟨b2, 0, none⟩ = some z ∧ (w1.alloc ob).cell? ⟨b2, 1, none⟩ = some v := by
  have hb := below_box w1 ob
  exact ⟨cell_keep2 hb s.1, cell_keep2 hb s.2.1, cell_keep2 hb s.2.2.1, cell_keep2 hb s.2.2.2⟩
set_option maxRecDepth 100000 in
set_option maxHeartbeats 4000000 in
theorem compare_ok (a b : Ar) (W : World) :
    Calls Tryd.prog 54 #[.agg #[.int .i64 a.h, .int .i64 a.l], .agg #[.int .i64 b.h, .int .i64 b.l]] W fun e w' => e = .returned (.int .i64 (cmpA a b)) ∧ Below W.heap.size W w' := by
  obtain ⟨ah, al⟩ := a
  obtain ⟨bh, bl⟩ := b
  obtain ⟨k1, k2⟩ := two_boxes W #[.int .i64 ah, .int .i64 al] #[.int .i64 bh, .int .i64 bl] 31 31
  have hb : Below W.heap.size W ((W.alloc (.cells #[.int .i64 ah, .int .i64 al] 31)).alloc (.cells #[.int .i64 bh, .int .i64 bl] 31)) := (below_box W _).alloc (by simp) _
  have hv : cmpA ⟨ah, al⟩ ⟨bh, bl⟩ = if cmpV ah bh ≠ 0 then cmpV ah bh else cmpV al bl := rfl
  rw [hv]
  have HC1 := Lib.hid (fun V => cmp64_ok ah bh V)
  have HC2 := Lib.hid (fun V => cmp64_ok al bl V)
  generalize cmpV ah bh = x at *
  generalize cmpV al bl = y at *
  have HX := Lib.hid hb
  have HOr := Lib.hid (fun W g h => or_ok W g x y h)
  generalize (if x ≠ 0 then x else y) = r at *
  clear hb hv
  go_enter Tryd.func54, Tryd.ntmps54
  go_upto_region 1 with (fail)
  generalize (W.alloc (.cells #[.int .i64 ah, .int .i64 al] 31)).alloc (.cells #[.int .i64 bh, .int .i64 bl] 31) = V at *
  obtain ⟨c0, c1⟩ := two_at k1
  obtain ⟨d0, d1⟩ := two_at k2
  have s1 : V.drew.cell? ⟨W.heap.size, 0, none⟩ = some (.int .i64 ah) ∧ V.drew.cell? ⟨W.heap.size, 1, none⟩ = some (.int .i64 al) ∧ V.drew.cell? ⟨W.heap.size + 1, 0, none⟩ = some (.int .i64 bh) ∧ V.drew.cell? ⟨W.heap.size + 1, 1, none⟩ = some (.int .i64 bl) := ⟨c0, c1, d0, d1⟩
  clear k1 k2
  have HO := Lib.hid (HOr.out (V.alloc (.cells #[.int .i64 x, .int .i64 y] 3)).drew V.heap.size (new_at V _))
  go_region_held3 (fun w' => w'.cell? ⟨W.heap.size, 0, none⟩ = some (.int .i64 ah) ∧ w'.cell? ⟨W.heap.size, 1, none⟩ = some (.int .i64 al) ∧ w'.cell? ⟨W.heap.size + 1, 0, none⟩ = some (.int .i64 bh) ∧ w'.cell? ⟨W.heap.size + 1, 1, none⟩ = some (.int .i64 bl))
    (first | assumption | exact C4.new (by assumption))
    (first | (go_at_call 47; ((with_reducible refine (HC1.out _).mono ?_); rintro e w4 ⟨rfl, hw⟩; have hw := hw.symm; subst hw)) | (go_at_call 47; ((with_reducible refine (HC2.out _).mono ?_); rintro e w4 ⟨rfl, hw⟩; have hw := hw.symm; subst hw)) | (go_at_call 80; ((with_reducible refine HO.out.mono ?_); rintro e w5 ⟨rfl, hw⟩; have hw := hw.symm; subst hw)))
  all_goals
    have HF := Lib.hid (below_drew (HX.out.trans ((below_box V (.cells #[.int .i64 x, .int .i64 y] 3)).mono HX.out.size)))
    go_wp2_with (fail)
    go_ret
    exact ⟨rfl, HF.out⟩
/-- The closure that tells the end of a run. -/
theorem end_ok (A : Option Addr) (c : Nat) (L : List Sm) (u : Int) (b1 b2 b3 : Nat) (W : World) (j : Nat) (hj : j < L.length) (hlen : L.length ≤ 500)
    (h1 : W.cell? ⟨b1, 0, none⟩ = some (.int .i64 (L.length : Int))) (h2 : W.cell? ⟨b2, 0, none⟩ = some (.slice A L.length c)) (h3 : W.cell? ⟨b3, 0, none⟩ = some (.int .i64 u)) (hL : SAt W A c L) :
    Calls Tryd.prog 50 #[.int .i64 (j : Int), .pointer (some ⟨b1, 0, none⟩), .pointer (some ⟨b2, 0, none⟩), .pointer (some ⟨b3, 0, none⟩)] W fun e w' => e = .returned (.int .i64 (endT L u (j + 1))) ∧ W = w' := by
  have hcm := hL.2.1
  have hlc := hL.1
  unfold maxLen at hcm
  unfold endT
  by_cases hlt : j + 1 < L.length
  · rw [if_pos hlt]
    obtain ⟨g, o, rfl, hg, d0, d1⟩ := hL.s2 hlt
    have hlti : (j : Int) + 1 < (L.length : Int) := by omega
    have qa : (0 : Int) ≤ (j : Int) + 1 := by omega
    have qb : ((j : Int) + 1).toNat = j + 1 := by omega
    clear hL d1
    generalize (sm L (j + 1)).a = z at *
    go_enter Tryd.func50, Tryd.ntmps50
    go_wp2_with (fail)
    go_ret
    exact ⟨rfl, rfl⟩
  · rw [if_neg hlt]
    have hlti : ¬ (j : Int) + 1 < (L.length : Int) := by omega
    clear hL
    go_enter Tryd.func50, Tryd.ntmps50
    go_wp2_with (fail)
    go_ret
    exact ⟨rfl, rfl⟩
end Sx
end Go.Proofs.YtionocafkaemiaaDoor
