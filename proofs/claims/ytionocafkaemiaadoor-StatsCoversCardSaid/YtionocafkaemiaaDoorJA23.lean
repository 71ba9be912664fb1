/- The program's envelope: what it refuses. The program's envelope: what it refuses, with no sample. The program's envelope: all of it. -/
import Derived.Test.YtionocafkaemiaaDoorK1
import Derived.Test.YtionocafkaemiaaDoorJA21
import Derived.Test.YtionocafkaemiaaDoorJS2
import Derived.Deep.CutBlock
import Derived.Outline
import Derived.Test.YtionocafkaemiaaDoorJA22
namespace Go.Proofs.YtionocafkaemiaaDoor
open Go.RowKit Go.Lib Go.Sort
namespace Sx
attribute [local irreducible] wpQuiet
/-- What an envelope that is refused comes out as. -/
def EnvX (c : Int) (W : World) (e : Ending) (w' : World) : Prop := e = .returned (.tuple #[sv none 0 0, .int .i64 c]) ∧ Below W.heap.size W w'
theorem series_szX : (Tryd.prog.info? 24).map (·.size) = some 1 := by kernel_rfl
theorem set1X {w : World} {p T : Nat} {a x : Value} (h : w.heap[p]? = some (.cells #[a] T (0, 0))) : (w.setCell ⟨p, 0, none⟩ x).heap[p]? = some (.cells #[x] T (0, 0)) := by
  rw [setCell_at _ _ _ _ _ _ h]; rfl
theorem frozen_plainX {w : World} {p T : Nat} {cs : Array Value} (h : w.heap[p]? = some (.cells cs T (0, 0))) (j : Nat) : w.frozen? ⟨p, j, none⟩ = false := by simp [World.frozen?, h]
set_option maxRecDepth 100000 in
set_option maxHeartbeats 4000000 in
theorem env_err1 (A : Option Addr) (c : Nat) (L : List Sm) (u most : Int) (W : World) (hL : SAt W A c L) (h0 : checkS L ≠ 0) :
    Calls Tryd.prog 17 #[sv A L.length c, .int .i64 u, .int .i64 most] W (EnvX (checkS L) W) := by
  have hcm := hL.2.1
  have hlc := hL.1
  unfold maxLen at hcm
  obtain ⟨k1, k2, k3⟩ := three_boxes W (.cells #[.slice A L.length c] 24) (.cells #[.int .i64 u] 2) (.cells #[.slice none 0 0] 24)
  have hbW := below_std (V := W) (.cells #[.slice A L.length c] 24) (.cells #[.int .i64 u] 2) (.cells #[.slice none 0 0] 24)
  have hCK := fun V (hV : Below W.heap.size W V) => check_ok A c L V (hL.below hV (Nat.le_refl _))
  have HX := Lib.hid (And.intro hbW (And.intro k1 (And.intro k2 (And.intro k3 hCK))))
  clear hbW k1 k2 k3 hCK hL
  go_enter Tryd.func17, Tryd.ntmps17
  go_upto_region 1 with (fail)
  generalize ((W.alloc (.cells #[.slice A L.length c] 24)).alloc (.cells #[.int .i64 u] 2)).alloc (.cells #[.slice none 0 0] 24) = V at *
  have s0 : V.cell? ⟨W.heap.size, 0, none⟩ = some (.slice A L.length c) := one_at HX.out.2.1
  go_upto_region 2 with (go_at_call 24; refine (HX.out.2.2.2.2 _ HX.out.1).mono ?_; rintro e w1 ⟨rfl, hb1⟩)
  replace s0 := cell_keep2 hb1 s0
  obtain ⟨V1, hV1⟩ : ∃ V1, V1 = w1 := ⟨_, rfl⟩
  subst hV1
  obtain ⟨V2, hV2⟩ : ∃ V2, V2 = (V1.alloc (.cells #[.slice A L.length c] 22)).alloc (.cells #[.int .i64 (L.length : Int)] 3) := ⟨_, rfl⟩
  have hb2 : Below V1.heap.size V1 V2 := by rw [hV2]; exact (below_box V1 _).alloc (by simp) _
  have hW1 : Below W.heap.size W V1 := HX.out.1.trans (hb1.mono HX.out.1.size)
  have hW2 : Below W.heap.size W V2 := hW1.trans (hb2.mono hW1.size)
  have c6 : V2.heap[W.heap.size + 2]? = some (.cells #[.slice none 0 0] 24 (0, 0)) := by
    have h1 := (hb1.block _ (lt_of_heap HX.out.2.2.2.1)).trans HX.out.2.2.2.1
    exact (hb2.block _ (lt_of_heap h1)).trans h1
  have f6 := frozen_plainX c6 0
  have z6 := one_at c6
  have H2 := Lib.hid (And.intro hW2 c6)
  have hq : (checkS L == 0) = false := beq_false_of_ne h0
  go_upto_region 4 with (fail)
  rw [← hV2]
  clear hb1 hb2 hW1 hW2 c6 hV2 s0
  go_wp2_with (fail)
  refine bodyPost_ret (results_row2 rfl _ _ (W.heap.size + 2) 24 #[.slice none 0 0] (0, 0) _ rfl (set1X H2.out.2) Tryd.underlying24 series_szX) rfl ?_
  exact ⟨rfl, H2.out.1.setCell (show W.heap.size ≤ W.heap.size + 2 by omega) _⟩
set_option maxRecDepth 100000 in
set_option maxHeartbeats 8000000 in
theorem env_err2 (A : Option Addr) (c : Nat) (L : List Sm) (u most : Int) (W : World) (hL : SAt W A c L) (h0 : checkS L = 0) (b1 b2 b3 b4 : Bool) (i1 : inT u = b1) (hn : 0 < L.length) (i2 : decide (u ≤ (sm L (L.length - 1)).a) = b2) (i3 : decide (most < 1) = b3) (i4 : decide (500 < most) = b4) (hb : (!b1 || b2 || b3 || b4) = true) :
    Calls Tryd.prog 17 #[sv A L.length c, .int .i64 u, .int .i64 most] W (EnvX 7 W) := by
  have hcm := hL.2.1
  have hlc := hL.1
  unfold maxLen at hcm
  obtain ⟨k1, k2, k3⟩ := three_boxes W (.cells #[.slice A L.length c] 24) (.cells #[.int .i64 u] 2) (.cells #[.slice none 0 0] 24)
  have hbW := below_std (V := W) (.cells #[.slice A L.length c] 24) (.cells #[.int .i64 u] 2) (.cells #[.slice none 0 0] 24)
  have hCK := fun V (hV : Below W.heap.size W V) => check_ok A c L V (hL.below hV (Nat.le_refl _))
  rw [h0] at hCK
  have HT := Lib.hid (fun V => isTime_ok u V)
  rw [i1] at HT
  have HX := Lib.hid (And.intro hbW (And.intro k1 (And.intro k2 (And.intro k3 (And.intro hCK hL)))))
  clear hbW k1 k2 k3 hCK hL
  go_enter Tryd.func17, Tryd.ntmps17
  go_upto_region 1 with (fail)
  generalize ((W.alloc (.cells #[.slice A L.length c] 24)).alloc (.cells #[.int .i64 u] 2)).alloc (.cells #[.slice none 0 0] 24) = V at *
  have s0 : V.cell? ⟨W.heap.size, 0, none⟩ = some (.slice A L.length c) := one_at HX.out.2.1
  go_upto_region 2 with (go_at_call 24; refine (HX.out.2.2.2.2.1 _ HX.out.1).mono ?_; rintro e w1 ⟨rfl, hb1⟩)
  replace s0 := cell_keep2 hb1 s0
  obtain ⟨V1, hV1⟩ : ∃ V1, V1 = w1 := ⟨_, rfl⟩
  subst hV1
  obtain ⟨b, hbe⟩ : ∃ b, b = V1.heap.size := ⟨_, rfl⟩
  obtain ⟨V2, hV2⟩ : ∃ V2, V2 = (V1.alloc (.cells #[.slice A L.length c] 22)).alloc (.cells #[.int .i64 (L.length : Int)] 3) := ⟨_, rfl⟩
  obtain ⟨k9, k10⟩ := two_boxes V1 #[.slice A L.length c] #[.int .i64 (L.length : Int)] 22 3
  have hb2 : Below V1.heap.size V1 V2 := by rw [hV2]; exact (below_box V1 _).alloc (by simp) _
  rw [← hV2, ← hbe] at k9
  rw [← hV2, ← hbe] at k10
  have hW1 : Below W.heap.size W V1 := HX.out.1.trans (hb1.mono HX.out.1.size)
  have hW2 : Below W.heap.size W V2 := hW1.trans (hb2.mono hW1.size)
  have c4 : V2.heap[W.heap.size + 1]? = some (.cells #[.int .i64 u] 2 (0, 0)) := by
    have h1 := (hb1.block _ (lt_of_heap HX.out.2.2.1)).trans HX.out.2.2.1
    exact (hb2.block _ (lt_of_heap h1)).trans h1
  have c6 : V2.heap[W.heap.size + 2]? = some (.cells #[.slice none 0 0] 24 (0, 0)) := by
    have h1 := (hb1.block _ (lt_of_heap HX.out.2.2.2.1)).trans HX.out.2.2.2.1
    exact (hb2.block _ (lt_of_heap h1)).trans h1
  have hL2 : SAt V2 A c L := HX.out.2.2.2.2.2.below hW2 (Nat.le_refl _)
  obtain ⟨g, o, rfl, hg, d0, d1⟩ := hL2.s2 (show L.length - 1 < L.length by omega)
  have x4 := one_at c4
  have x9 := one_at k9
  have x10 := one_at k10
  have H2 := Lib.hid (And.intro hW2 c6)
  go_upto_region 4 with (fail)
  rw [← hV2, ← hbe]
  clear hb1 hb2 hW1 hW2 c4 c6 k9 k10 hL2 hbe hV2 d1 s0
  generalize (sm L (L.length - 1)).a = la at *
  have q1 : (0 : Int) ≤ (L.length : Int) - 1 := by omega
  have q2 : ((L.length : Int) - 1).toNat = L.length - 1 := by omega
  have q3 : (L.length : Int) - 1 < (L.length : Int) := by omega
  have q4 : (L.length : Int) > 0 := by omega
  have q7 : IntKind.i64.wrap ((L.length : Int) - 1) = (L.length : Int) - 1 := IntWalk.i64_in _ (by omega)
  have p1 : decide (0 < L.length) = true := decide_eq_true hn
  have p2 : decide ((0 : Int) < (L.length : Int)) = true := decide_eq_true (by omega)
  go_upto_region 6 with (fail)
  have h4 : b1 = false ∨ (b1 = true ∧ b2 = true) ∨ (b1 = true ∧ b2 = false ∧ b3 = true) ∨ (b1 = true ∧ b2 = false ∧ b3 = false ∧ b4 = true) := by revert hb; cases b1 <;> cases b2 <;> cases b3 <;> cases b4 <;> decide
  rcases h4 with rfl | ⟨rfl, rfl⟩ | ⟨rfl, rfl, rfl⟩ | ⟨rfl, rfl, rfl, rfl⟩
  all_goals
    go_quiet ((go_at_call 49; exact Calls.quiet_of_same (HT.out _)))
    have z6 : (V2.drewN nq).cell? ⟨W.heap.size + 1 + 1, 0, none⟩ = some (.slice none 0 0) := (one_at H2.out.2 : V2.cell? _ = _)
    have f6 : (V2.drewN nq).frozen? ⟨W.heap.size + 1 + 1, 0, none⟩ = false := frozen_plainX (w := V2) H2.out.2 0
    go_wp2_with (fail)
    refine bodyPost_ret (results_row2 rfl _ _ (W.heap.size + 1 + 1) 24 #[.slice none 0 0] (0, 0) _ rfl (set1X (w := V2.drewN nq) H2.out.2) Tryd.underlying24 series_szX) rfl ?_
    exact ⟨rfl, (below_drewN H2.out.1 _).setCell (show W.heap.size ≤ W.heap.size + 1 + 1 by omega) _⟩
end Sx
end Go.Proofs.YtionocafkaemiaaDoor
namespace Go.Proofs.YtionocafkaemiaaDoor
open Go.RowKit Go.Lib Go.Sort
namespace Sx
attribute [local irreducible] wpQuiet
set_option maxRecDepth 100000 in
set_option maxHeartbeats 8000000 in
theorem env_err3 (A : Option Addr) (c : Nat) (L : List Sm) (u most : Int) (W : World) (hL : SAt W A c L) (h0 : checkS L = 0) (b1 b3 b4 : Bool) (i1 : inT u = b1) (hn : L.length = 0) (i3 : decide (most < 1) = b3) (i4 : decide (500 < most) = b4) :
    Calls Tryd.prog 17 #[sv A L.length c, .int .i64 u, .int .i64 most] W (EnvX (if (!b1 || b3 || b4) = true then 7 else 4) W) := by
  have hcm := hL.2.1
  have hlc := hL.1
  unfold maxLen at hcm
  have p1 : decide (0 < L.length) = false := decide_eq_false (by omega)
  have p2 : decide ((0 : Int) < (L.length : Int)) = false := decide_eq_false (by omega)
  have p6 : ((L.length : Int) == 0) = true := by rw [hn]; rfl
  clear hn
  obtain ⟨k1, k2, k3⟩ := three_boxes W (.cells #[.slice A L.length c] 24) (.cells #[.int .i64 u] 2) (.cells #[.slice none 0 0] 24)
  have hbW := below_std (V := W) (.cells #[.slice A L.length c] 24) (.cells #[.int .i64 u] 2) (.cells #[.slice none 0 0] 24)
  have hCK := fun V (hV : Below W.heap.size W V) => check_ok A c L V (hL.below hV (Nat.le_refl _))
  rw [h0] at hCK
  have HT := Lib.hid (fun V => isTime_ok u V)
  rw [i1] at HT
  have HX := Lib.hid (And.intro hbW (And.intro k1 (And.intro k2 (And.intro k3 (And.intro hCK hL)))))
  clear hbW k1 k2 k3 hCK hL
  go_enter Tryd.func17, Tryd.ntmps17
  go_upto_region 1 with (fail)
  generalize ((W.alloc (.cells #[.slice A L.length c] 24)).alloc (.cells #[.int .i64 u] 2)).alloc (.cells #[.slice none 0 0] 24) = V at *
  have s0 : V.cell? ⟨W.heap.size, 0, none⟩ = some (.slice A L.length c) := one_at HX.out.2.1
  go_upto_region 2 with (go_at_call 24; refine (HX.out.2.2.2.2.1 _ HX.out.1).mono ?_; rintro e w1 ⟨rfl, hb1⟩)
  replace s0 := cell_keep2 hb1 s0
  obtain ⟨V1, hV1⟩ : ∃ V1, V1 = w1 := ⟨_, rfl⟩
  subst hV1
  obtain ⟨b, hbe⟩ : ∃ b, b = V1.heap.size := ⟨_, rfl⟩
  obtain ⟨V2, hV2⟩ : ∃ V2, V2 = (V1.alloc (.cells #[.slice A L.length c] 22)).alloc (.cells #[.int .i64 (L.length : Int)] 3) := ⟨_, rfl⟩
  obtain ⟨k9, k10⟩ := two_boxes V1 #[.slice A L.length c] #[.int .i64 (L.length : Int)] 22 3
  have hb2 : Below V1.heap.size V1 V2 := by rw [hV2]; exact (below_box V1 _).alloc (by simp) _
  rw [← hV2, ← hbe] at k9
  rw [← hV2, ← hbe] at k10
  have hW1 : Below W.heap.size W V1 := HX.out.1.trans (hb1.mono HX.out.1.size)
  have hW2 : Below W.heap.size W V2 := hW1.trans (hb2.mono hW1.size)
  have c4 : V2.heap[W.heap.size + 1]? = some (.cells #[.int .i64 u] 2 (0, 0)) := by
    have h1 := (hb1.block _ (lt_of_heap HX.out.2.2.1)).trans HX.out.2.2.1
    exact (hb2.block _ (lt_of_heap h1)).trans h1
  have c6 : V2.heap[W.heap.size + 2]? = some (.cells #[.slice none 0 0] 24 (0, 0)) := by
    have h1 := (hb1.block _ (lt_of_heap HX.out.2.2.2.1)).trans HX.out.2.2.2.1
    exact (hb2.block _ (lt_of_heap h1)).trans h1
  have hL2 : SAt V2 A c L := HX.out.2.2.2.2.2.below hW2 (Nat.le_refl _)
  have x4 := one_at c4
  have x9 := one_at k9
  have x10 := one_at k10
  have H2 := Lib.hid (And.intro hW2 c6)
  go_upto_region 4 with (fail)
  rw [← hV2, ← hbe]
  clear hb1 hb2 hW1 hW2 c4 c6 k9 k10 hL2 hbe hV2 s0
  go_upto_region 6 with (fail)
  have h4 : b1 = false ∨ (b1 = true ∧ b3 = true) ∨ (b1 = true ∧ b3 = false ∧ b4 = true) ∨ (b1 = true ∧ b3 = false ∧ b4 = false) := by cases b1 <;> cases b3 <;> cases b4 <;> decide
  rcases h4 with rfl | ⟨rfl, rfl⟩ | ⟨rfl, rfl, rfl⟩ | ⟨rfl, rfl, rfl⟩
  all_goals
    go_quiet ((go_at_call 49; exact Calls.quiet_of_same (HT.out _)))
    have z6 : (V2.drewN nq).cell? ⟨W.heap.size + 1 + 1, 0, none⟩ = some (.slice none 0 0) := (one_at H2.out.2 : V2.cell? _ = _)
    have f6 : (V2.drewN nq).frozen? ⟨W.heap.size + 1 + 1, 0, none⟩ = false := frozen_plainX (w := V2) H2.out.2 0
    go_wp2_with (fail)
    refine bodyPost_ret (results_row2 rfl _ _ (W.heap.size + 1 + 1) 24 #[.slice none 0 0] (0, 0) _ rfl (set1X (w := V2.drewN nq) H2.out.2) Tryd.underlying24 series_szX) rfl ?_
    exact ⟨rfl, (below_drewN H2.out.1 _).setCell (show W.heap.size ≤ W.heap.size + 1 + 1 by omega) _⟩
end Sx
end Go.Proofs.YtionocafkaemiaaDoor
namespace Go.Proofs.YtionocafkaemiaaDoor
open Go.RowKit Go.Lib Go.Sort
namespace Sx
/-- Envelope of the program computes envS. -/
theorem env_ok (A : Option Addr) (c : Nat) (L : List Sm) (u most : Int) (W : World) (hL : SAt W A c L) :
    Calls Tryd.prog 17 #[sv A L.length c, .int .i64 u, .int .i64 most] W fun e w' => ∃ A' c', e = .returned (.tuple #[sv A' (envS L u most).1.length c', .int .i64 (envS L u most).2]) ∧ SAt w' A' c' (envS L u most).1 ∧ Below W.heap.size W w' := by
  by_cases h : chkE L u most = 0
  · refine (env_main A c L u most W hL h).mono ?_
    rintro e w' ⟨A', c', h1, h2, h3⟩
    have he : envS L u most = (overS L (bestL L u most.toNat), 0) := if_neg (by simpa using h)
    rw [he]
    exact ⟨A', c', h1, h2, h3⟩
  · have he : envS L u most = ([], chkE L u most) := if_pos h
    rw [he]
    have hx : Calls Tryd.prog 17 #[sv A L.length c, .int .i64 u, .int .i64 most] W (EnvX (chkE L u most) W) := by
      by_cases h0 : checkS L = 0
      · by_cases hn : L.length = 0
        · have h3 := env_err3 A c L u most W hL h0 _ _ _ rfl hn rfl rfl
          have e : chkE L u most = (if (!inT u || decide (most < 1) || decide (500 < most)) = true then 7 else 4) := by
            unfold chkE
            rw [if_neg (by simpa using h0), if_pos hn]
            by_cases h1 : inT u = true <;> by_cases h2 : most < 1 <;> by_cases h3 : 500 < most <;> simp [h1, h2, h3, hn]
          rw [e]; exact h3
        · have e : chkE L u most = 7 ∧ (!inT u || decide (u ≤ (sm L (L.length - 1)).a) || decide (most < 1) || decide (500 < most)) = true := by
            unfold chkE at h ⊢
            rw [if_neg (by simpa using h0), if_neg hn] at h
            rw [if_neg (by simpa using h0), if_neg hn]
            split at h
            · next hh =>
              refine ⟨if_pos hh, ?_⟩
              rcases hh with h1 | ⟨_, h1⟩ | h1 | h1
              · rw [h1]; rfl
              · rw [decide_eq_true h1]; cases inT u <;> rfl
              · rw [decide_eq_true h1]; simp
              · rw [decide_eq_true h1]; simp
            · exact absurd rfl h
          rw [e.1]
          exact env_err2 A c L u most W hL h0 _ _ _ _ rfl (by omega) rfl rfl rfl e.2
      · have e : chkE L u most = checkS L := if_pos h0
        rw [e]; exact env_err1 A c L u most W hL h0
    refine hx.mono ?_
    rintro e w' ⟨h1, h2⟩
    exact ⟨none, 0, h1, ⟨by simp, by simp [maxLen], fun j x hj => by simp at hj⟩, h2⟩
end Sx
end Go.Proofs.YtionocafkaemiaaDoor
