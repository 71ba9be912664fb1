/- cmp; the closures of open and most. -/
import Derived.Test.YtnkkhbmbbkmfhaaJA1
import Derived.Test.YtnkkhbmbbkmfhaaJR1
import Derived.Test.YtnkkhbmbbkmfhaaK2
import Derived.Shelf.SlSortCmp.QuietGrown
import Derived.StillTailTactics
namespace Go.Proofs.Ytnkkhbmbbkmfhaa
open Go.Shelf Go.RowKit Go.Lib Go.Sort
namespace Py

/-- What Compare says. -/
def cmpV (a b : Int) : Int := if a < b then -1 else if b < a then 1 else 0
theorem nan64_ok (x : Int) (w : World) : Calls Try.prog 76 #[.int .i64 x] w fun e w' => e = .returned (.bool false) ∧ w = w' := by
  go_enter Try.func76, Try.ntmps76
  go_wp2
  go_ret
  exact ⟨by simp, rfl⟩
theorem nan_ok (x : Int) (w : World) : Calls Try.prog 77 #[.int .i64 x] w fun e w' => e = .returned (.bool false) ∧ w = w' := by
  go_enter Try.func77, Try.ntmps77
  go_wp2
  go_ret
  exact ⟨by simp, rfl⟩
set_option maxHeartbeats 1000000 in
theorem cmp64_ok (a b : Int) (w : World) : Calls Try.prog 58 #[.int .i64 a, .int .i64 b] w fun e w' => e = .returned (.int .i64 (cmpV a b)) ∧ w = w' := by
  unfold cmpV
  by_cases h : a < b
  · rw [if_pos h]
    go_enter Try.func58, Try.ntmps58
    go_wp2_with (go_at_call 76; refine (nan64_ok _ _).mono ?_; rintro e w' ⟨rfl, rfl⟩)
    go_ret
    exact ⟨rfl, rfl⟩
  · rw [if_neg h]
    by_cases h2 : b < a
    · rw [if_pos h2]
      go_enter Try.func58, Try.ntmps58
      go_wp2_with (go_at_call 76; refine (nan64_ok _ _).mono ?_; rintro e w' ⟨rfl, rfl⟩)
      go_ret
      exact ⟨rfl, rfl⟩
    · rw [if_neg h2]
      go_enter Try.func58, Try.ntmps58
      go_wp2_with (go_at_call 76; refine (nan64_ok _ _).mono ?_; rintro e w' ⟨rfl, rfl⟩)
      go_ret
      exact ⟨rfl, rfl⟩
set_option maxHeartbeats 1000000 in
theorem cmpI_ok (a b : Int) (w : World) : Calls Try.prog 59 #[.int .i64 a, .int .i64 b] w fun e w' => e = .returned (.int .i64 (cmpV a b)) ∧ w = w' := by
  unfold cmpV
  by_cases h : a < b
  · rw [if_pos h]
    go_enter Try.func59, Try.ntmps59
    go_wp2_with (go_at_call 77; refine (nan_ok _ _).mono ?_; rintro e w' ⟨rfl, rfl⟩)
    go_ret
    exact ⟨rfl, rfl⟩
  · rw [if_neg h]
    by_cases h2 : b < a
    · rw [if_pos h2]
      go_enter Try.func59, Try.ntmps59
      go_wp2_with (go_at_call 77; refine (nan_ok _ _).mono ?_; rintro e w' ⟨rfl, rfl⟩)
      go_ret
      exact ⟨rfl, rfl⟩
    · rw [if_neg h2]
      go_enter Try.func59, Try.ntmps59
      go_wp2_with (go_at_call 77; refine (nan_ok _ _).mono ?_; rintro e w' ⟨rfl, rfl⟩)
      go_ret
      exact ⟨rfl, rfl⟩

def orV (a b : Int) : Int := if a ≠ 0 then a else b
set_option maxHeartbeats 2000000 in
theorem or_ok (w : World) (g : Nat) (a b : Int) (h0 : w.cell? ⟨g, 0, none⟩ = some (.int .i64 a)) (h1 : w.cell? ⟨g, 1, none⟩ = some (.int .i64 b)) :
    Calls Try.prog 72 #[.slice (some ⟨g, 0, none⟩) 2 2] w fun e w' => e = .returned (.int .i64 (orV a b)) ∧ w = w' := by
  have H := Lib.hid (And.intro h0 h1)
  clear h0 h1
  go_enter Try.func72, Try.ntmps72
  go_wp2
  go_loopw [8] (fun v wr => ∃ k : Nat, k ≤ 2 ∧ v = .int .i64 (k : Int) ∧ wr = w ∧ (1 ≤ k → a = 0) ∧ (2 ≤ k → b = 0)) (fun v _ => 2 - (intOf v).toNat)
  case atStart => exact ⟨0, by omega, rfl, rfl, fun h => by omega, fun h => by omega⟩
  case round =>
    obtain ⟨k, hk, rfl, rfl, ha, hb⟩ := hrel
    have hk3 : k = 0 ∨ k = 1 ∨ k = 2 := by omega
    rcases hk3 with rfl | rfl | rfl
    · have c0 := H.out.1
      by_cases e : a = 0
      · have ne : (a != 0) = false := by simp [e]
        have HE := Lib.hid e
        clear e ha hb
        go_wp2
        go_roundw
        case rel => exact ⟨1, by omega, by go_num, trivial, fun _ => HE.out, fun h => by omega⟩
        case measure => simp [intOf]
      · have ne : (a != 0) = true := by simpa using e
        have HE := Lib.hid e
        clear e ha hb
        go_wp2
        go_ret
        rw [show orV a b = a by unfold orV; rw [if_pos HE.out]]
        exact ⟨rfl, rfl⟩
    · have c1 := H.out.2
      have e : a = 0 := ha (Nat.le_refl _)
      have HE := Lib.hid e
      by_cases e2 : b = 0
      · have ne : (b != 0) = false := by simp [e2]
        have HE2 := Lib.hid e2
        clear e e2 ha hb
        go_wp2
        go_roundw
        case rel => exact ⟨2, by omega, by go_num, trivial, fun _ => HE.out, fun _ => HE2.out⟩
        case measure => simp [intOf]
      · have ne : (b != 0) = true := by simpa using e2
        clear e e2 ha hb
        go_wp2
        go_ret
        rw [show orV a b = b by unfold orV; rw [if_neg (by rw [HE.out]; simp)]]
        exact ⟨rfl, rfl⟩
    · have HE := Lib.hid (And.intro (ha (by omega)) (hb (by omega)))
      clear ha hb
      go_wp2
      go_ret
      rw [show orV a b = 0 by unfold orV; rw [if_neg (by rw [HE.out.1]; simp), HE.out.2]]
      exact ⟨rfl, rfl⟩

theorem cell_two_a (w : World) (x y : Value) (T : TypeId) : (w.alloc (.cells #[x, y] T)).cell? ⟨w.heap.size, 0, none⟩ = some x := by
  rw [cell_of_row _ _ _ _ _ _ (show (w.alloc (.cells #[x, y] T)).heap[w.heap.size]? = some (.cells #[x, y] T (0, 0)) by rw [heapAlloc, if_pos rfl])]; rfl
theorem cell_two_b (w : World) (x y : Value) (T : TypeId) : (w.alloc (.cells #[x, y] T)).cell? ⟨w.heap.size, 1, none⟩ = some y := by
  rw [cell_of_row _ _ _ _ _ _ (show (w.alloc (.cells #[x, y] T)).heap[w.heap.size]? = some (.cells #[x, y] T (0, 0)) by rw [heapAlloc, if_pos rfl])]; rfl
theorem cell_two_c (w : World) (x y : Value) (T : TypeId) : (w.alloc (.cells #[x, y] T)).drew.cell? ⟨w.heap.size, 0, none⟩ = some x := cell_two_a w x y T
theorem cell_two_d (w : World) (x y : Value) (T : TypeId) : (w.alloc (.cells #[x, y] T)).drew.cell? ⟨w.heap.size, 1, none⟩ = some y := cell_two_b w x y T
theorem drew_grow (w : World) (o : Obj) : (w.alloc o).drew = grow (w.drewN 1) #[o] := by
  unfold grow World.alloc World.drew World.drewN
  simp
/-- What the closure of open compares. -/
def gcmp (a b : PU) : Int := orV (cmpV a.f b.f) (cmpV a.p b.p)
def outV (n m : Int) : Bool := decide (n < 0) || decide (m < n)
theorem outside_ok (n m : Int) (w : World) : Calls Try.prog 38 #[.int .i64 n, .int .i64 m] w fun e w' => e = .returned (.bool (outV n m)) ∧ w' = w := by
  unfold outV
  by_cases h : n < 0
  · go_enter Try.func38, Try.ntmps38
    go_wp2
    go_ret
    exact ⟨by rw [decide_eq_true h]; rfl, rfl⟩
  · go_enter Try.func38, Try.ntmps38
    go_wp2
    go_ret
    exact ⟨by rw [decide_eq_false (show ¬ n < 0 by omega)]; rfl, rfl⟩
theorem out_in (n : Int) (m : Int) : outV n m = !inR n 0 m := by
  unfold outV inR
  by_cases h1 : n < 0 <;> by_cases h2 : m < n <;> simp [h1, h2] <;> omega
theorem alloc1_grow (w : World) (o : Obj) : w.alloc o = grow (w.drewN 0) #[o] := by rw [alloc_eq_grow]; rfl
theorem alloc2_grow (w : World) (o1 o2 : Obj) : (w.alloc o1).alloc o2 = grow (w.drewN 0) #[o1, o2] := by
  rw [alloc_eq_grow, alloc_eq_grow, grow_grow]; rfl
theorem grow_more (w : World) (q : Nat) (os : Array Obj) (o : Obj) : ((grow (w.drewN q) os).alloc o) = grow (w.drewN q) (os ++ #[o]) := by rw [alloc_eq_grow, grow_grow]
theorem two_boxes (w : World) (cs ds : Array Value) (T S : TypeId) : ((w.alloc (.cells cs T)).alloc (.cells ds S)).heap[w.heap.size]? = some (.cells cs T (0, 0)) ∧ ((w.alloc (.cells cs T)).alloc (.cells ds S)).heap[w.heap.size + 1]? = some (.cells ds S (0, 0)) := by
  constructor
  · rw [alloc_old _ _ _ (by simp), heapAlloc, if_pos rfl]
  · rw [heapAlloc, if_pos (by simp)]
set_option maxRecDepth 100000 in
set_option maxHeartbeats 4000000 in
theorem gcmp_ok (x y : PU) (w : World) : Calls Try.prog 74 #[ub x, ub y] w fun e w' => e = .returned (.int .i64 (gcmp x y)) ∧ ∃ q os', w' = grow (w.drewN q) os' := by
  obtain ⟨h1, h2⟩ := two_boxes w #[.int .i64 x.p, .int .i64 x.f, .int .i64 x.t] #[.int .i64 y.p, .int .i64 y.f, .int .i64 y.t] 66 66
  have hg := alloc2_grow w (.cells #[.int .i64 x.p, .int .i64 x.f, .int .i64 x.t] 66) (.cells #[.int .i64 y.p, .int .i64 y.f, .int .i64 y.t] 66)
  have HG := Lib.hid hg
  unfold gcmp
  have HX := Lib.hid (And.intro h1 h2)
  clear h1 h2 hg
  go_enter Try.func74, Try.ntmps74
  go_upto_region 1 with (fail)
  generalize (w.alloc (.cells #[.int .i64 x.p, .int .i64 x.f, .int .i64 x.t] 66)).alloc (.cells #[.int .i64 y.p, .int .i64 y.f, .int .i64 y.t] 66) = V at *
  obtain ⟨x0, x1, x2⟩ := three_at HX.out.1
  obtain ⟨y0, y1, y2⟩ := three_at HX.out.2
  obtain ⟨xp, xf, xt⟩ := x
  obtain ⟨yp, yf, yt⟩ := y
  dsimp only at x0 x1 y0 y1 HG ⊢
  clear x2 y2
  go_still_tail 10, (by kernel_rfl)
  still_call ((cmp64_ok xf yf _).mono fun _ _ h => ⟨h.1, h.2.symm⟩)
  repeat still_step
  still_call ((cmpI_ok xp yp _).mono fun _ _ h => ⟨h.1, h.2.symm⟩)
  refine wpStill_nil ?_
  change wpList _ _ _ _ _ V.drew
  go_wp2_with (go_at_call 72; refine (or_ok _ V.heap.size _ _ (cell_two_c _ _ _ _) (cell_two_d _ _ _ _)).mono ?_; rintro e w1 ⟨rfl, rfl⟩)
  go_ret
  refine ⟨rfl, 1, #[.cells #[.int .i64 xp, .int .i64 xf, .int .i64 xt] 66, .cells #[.int .i64 yp, .int .i64 yf, .int .i64 yt] 66] ++ #[.cells #[.int .i64 (cmpV xf yf), .int .i64 (cmpV xp yp)] 3], ?_⟩
  rw [drew_grow, HG.out]
  exact grow_grow (w.drewN 1) _ _
/-- The box of a step. -/
abbrev sb (s : St) : Value := .agg #[.int .i64 s.a, .bool s.b, .int .i64 s.p]
def scmp (x y : St) : Int := if x.a ≠ y.a then cmpV x.a y.a else if x.b ≠ y.b then (if x.b then -1 else 1) else cmpV x.p y.p
theorem cmpV_0 (a b : Int) : cmpV a b = 0 ↔ a = b := by
  unfold cmpV; split
  · constructor <;> intro h <;> omega
  · split
    · constructor <;> intro h <;> omega
    · constructor <;> intro h <;> omega
theorem cmpV_lt (a b : Int) : cmpV a b < 0 ↔ a < b := by
  unfold cmpV; split
  · constructor <;> intro h <;> omega
  · split
    · constructor <;> intro h <;> omega
    · constructor <;> intro h <;> omega
set_option maxRecDepth 100000 in
set_option maxHeartbeats 4000000 in
theorem scmp_ok (x y : St) (w : World) : Calls Try.prog 57 #[sb x, sb y] w fun e w' => e = .returned (.int .i64 (scmp x y)) ∧ ∃ q os', w' = grow (w.drewN q) os' := by
  obtain ⟨h1, h2⟩ := two_boxes w #[.int .i64 x.a, .bool x.b, .int .i64 x.p] #[.int .i64 y.a, .bool y.b, .int .i64 y.p] 95 95
  have hg := alloc2_grow w (.cells #[.int .i64 x.a, .bool x.b, .int .i64 x.p] 95) (.cells #[.int .i64 y.a, .bool y.b, .int .i64 y.p] 95)
  have HG := Lib.hid hg
  unfold scmp
  have HX := Lib.hid (And.intro h1 h2)
  clear h1 h2 hg
  go_enter Try.func57, Try.ntmps57
  go_upto_region 1 with (fail)
  generalize (w.alloc (.cells #[.int .i64 x.a, .bool x.b, .int .i64 x.p] 95)).alloc (.cells #[.int .i64 y.a, .bool y.b, .int .i64 y.p] 95) = V at *
  obtain ⟨x0, x1, x2⟩ := three_at HX.out.1
  obtain ⟨y0, y1, y2⟩ := three_at HX.out.2
  obtain ⟨xa, xb, xp⟩ := x
  obtain ⟨ya, yb, yp⟩ := y
  dsimp only at x0 x1 x2 y0 y1 y2 HG ⊢
  by_cases ha : xa = ya
  · have hc : (cmpV xa ya != 0) = false := by rw [(cmpV_0 _ _).2 ha]; rfl
    have HA := Lib.hid ha
    clear ha
    generalize hcv : cmpV xa ya = cv at *
    have HC := Lib.hid (fun V => hcv ▸ cmp64_ok xa ya V)
    clear hcv
    cases xb <;> cases yb
    · go_wp2_with (first
        | (go_at_call 58; refine (HC.out _).mono ?_; rintro e w1 ⟨rfl, rfl⟩)
        | (go_at_call 59; refine (cmpI_ok _ _ _).mono ?_; rintro e w1 ⟨rfl, rfl⟩))
      go_ret
      exact ⟨by first | rfl | (simp; done), 0, _, HG.out⟩
    · go_wp2_with (first
        | (go_at_call 58; refine (HC.out _).mono ?_; rintro e w1 ⟨rfl, rfl⟩)
        | (go_at_call 59; refine (cmpI_ok _ _ _).mono ?_; rintro e w1 ⟨rfl, rfl⟩))
      go_ret
      exact ⟨by first | rfl | (simp; done), 0, _, HG.out⟩
    · go_wp2_with (first
        | (go_at_call 58; refine (HC.out _).mono ?_; rintro e w1 ⟨rfl, rfl⟩)
        | (go_at_call 59; refine (cmpI_ok _ _ _).mono ?_; rintro e w1 ⟨rfl, rfl⟩))
      go_ret
      exact ⟨by first | rfl | (simp; done), 0, _, HG.out⟩
    · go_wp2_with (first
        | (go_at_call 58; refine (HC.out _).mono ?_; rintro e w1 ⟨rfl, rfl⟩)
        | (go_at_call 59; refine (cmpI_ok _ _ _).mono ?_; rintro e w1 ⟨rfl, rfl⟩))
      go_ret
      exact ⟨by first | rfl | (simp; done), 0, _, HG.out⟩
  · have hc : (cmpV xa ya != 0) = true := by simp [cmpV_0, ha]
    have HA := Lib.hid ha
    clear ha
    generalize hcv : cmpV xa ya = cv at *
    have HC := Lib.hid (fun V => hcv ▸ cmp64_ok xa ya V)
    have HCV := Lib.hid hcv
    clear hcv
    go_wp2_with (first
      | (go_at_call 58; refine (HC.out _).mono ?_; rintro e w1 ⟨rfl, rfl⟩))
    go_ret
    exact ⟨by first | (rw [HCV.out]; rfl) | (rw [if_pos HA.out, HCV.out]; rfl), 0, _, HG.out⟩
end Py
end Go.Proofs.Ytnkkhbmbbkmfhaa
