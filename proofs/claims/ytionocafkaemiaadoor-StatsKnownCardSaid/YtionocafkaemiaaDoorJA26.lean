/- Add: slices.Clone, a value that is set. Add of the program. -/
import Derived.Test.YtionocafkaemiaaDoorJS6
import Derived.Test.YtionocafkaemiaaDoorJA1
import Derived.Test.YtionocafkaemiaaDoorJPA
import Derived.Lib.SliceRun
import Derived.Test.YtionocafkaemiaaDoorJR5
import Derived.Test.YtionocafkaemiaaDoorJL1
namespace Go.Proofs.YtionocafkaemiaaDoor
open Go.RowKit Go.Lib
namespace Sx
attribute [local irreducible] wpQuiet
theorem heap_keep {w w' : World} {k : Nat} {cs : Array Value} {T : TypeId} (hk : w.heap[k]? = some (.cells cs T (0, 0))) (hb : Below w.heap.size w w') : w'.heap[k]? = some (.cells cs T (0, 0)) := (hb.block k (lt_of_heap hk)).trans hk
theorem frozen_at {w : World} {p T : Nat} {cs : Array Value} (h : w.heap[p]? = some (.cells cs T (0, 0))) (j : Nat) : w.frozen? ⟨p, j, none⟩ = false := by simp [World.frozen?, h]
theorem owne_empty (w : World) (T : TypeId) : OwnE Sx.es 2 (w.alloc (.cells #[] T)) w.heap.size T (some ⟨w.heap.size, 0, none⟩) 0 [] :=
  ⟨rfl, .inr ⟨w.heap.size, 0, #[], rfl, Nat.le_refl _, new_at _ _, Nat.le_refl _, Nat.zero_le _, rfl, rfl⟩⟩
theorem ce_set (v : Int) : ∀ (X : List Sm) (j : Nat), j < X.length → (ce es X).set (j * 2 + 1) (.int .i64 v) = ce es (X.set j ⟨(sm X j).a, v⟩)
  | [], j, h => by simp at h
  | x :: X, 0, _ => rfl
  | x :: X, j + 1, h => by
    have := ce_set v X j (by simpa using h)
    show (([.int .i64 x.a, .int .i64 x.v] : List Value) ++ ce es X).set ((j + 1) * 2 + 1) _ = ([.int .i64 x.a, .int .i64 x.v] : List Value) ++ ce es (X.set j ⟨(sm X j).a, v⟩)
    rw [← this, show (j + 1) * 2 + 1 = (j * 2 + 1) + 2 by omega]
    rfl
theorem OwnE.setv {w : World} {B T c : Nat} {A : Option Addr} {X : List Sm} (h : OwnE Sx.es 2 w B T A c X) {j : Nat} (hj : j < X.length) (v : Int) :
    ∃ g, A = some ⟨g, 0, none⟩ ∧ B ≤ g ∧ OwnE Sx.es 2 (w.setCell ⟨g, j * 2 + 1, none⟩ (.int .i64 v)) B T A c (X.set j ⟨(sm X j).a, v⟩) ∧ (∀ i, w.frozen? ⟨g, i, none⟩ = false) ∧ w.cell? ⟨g, j * 2, none⟩ = some (.int .i64 (sm X j).a) ∧ w.cell? ⟨g, j * 2 + 1, none⟩ = some (.int .i64 (sm X j).v) := by
  have hat := (OwnE.at ES h).1
  obtain ⟨g', o', hA, _, d0, d1⟩ := hat.s2 hj
  rcases h.2 with ⟨_, h0⟩ | ⟨g, cap, cur, hv, hB, hg, h1, h2, h3, h4⟩
  · omega
  · injection hv with e1 e2 e3
    rw [hA] at e1
    injection e1 with e1; injection e1 with e4 e5
    subst e4; subst e5; subst e3
    simp only [Nat.zero_add] at d0 d1
    refine ⟨g', hA, hB, ⟨by rw [ce_len ES, List.length_set], .inr ⟨g', c, cur.setIfInBounds (j * 2 + 1) (.int .i64 v), by rw [hA, List.length_set], hB, ?_, by rw [List.length_set]; exact h1, h2, by simpa using h3, ?_⟩⟩, fun i => by simp [World.frozen?, hg], d0, d1⟩
    · simp [World.setCell, Array.getElem?_modify, hg]
    · rw [List.length_set, Array.toList_setIfInBounds, ← ce_set v X j hj, ← h4, List.take_set]
set_option maxRecDepth 100000 in
set_option maxHeartbeats 2000000 in
theorem clone_ok (A : Option Addr) (c : Nat) (L : List Sm) (W : World) (hL : SAt W A c L) (hn : A = none → c = 0) (hl : L.length ≤ 1000) :
    Calls Tryd.prog 62 #[.slice A L.length c] W fun e w' => ∃ A' c', e = .returned (.slice A' L.length c') ∧ OwnE Sx.es 2 w' W.heap.size 49 A' c' L ∧ Below W.heap.size W w' := by
  cases A with
  | none =>
    have h0 : L = [] := List.length_eq_zero_iff.1 (by have := hL.1; have := hn rfl; omega)
    subst h0
    have hc := hn rfl
    subst hc
    have hq := fun w : World => Lib.run_eql_slice_nil (P := Tryd.prog) w 22 _ none 0 0 0 0 Tryd.underlying22
    go_enter Tryd.func62, Tryd.ntmps62
    go_wp2_with (fail)
    go_ret
    exact ⟨none, 0, rfl, owne_nil _ _ _, Below.refl _ _⟩
  | some ad =>
    have hx := below_box W (.cells #[] 49)
    have hE := owne_empty W 49
    have hLx := hL.below hx (Nat.le_refl _)
    have HX := Lib.hid (And.intro hx (And.intro hE hLx))
    clear hx hE hLx hL hn
    have hq := fun w : World => Lib.run_eql_slice_nil (P := Tryd.prog) w 22 _ (some ad) L.length c 0 0 Tryd.underlying22
    go_enter Tryd.func62, Tryd.ntmps62
    go_wp2_with (at_builtin; refine wpList_e ES Tryd.underlying22 sample_info (by decide) ?_ (.tmp 5) (.tmp 6) ?_ W.heap.size (some ⟨W.heap.size, 0, none⟩) 0 [] ?_ HX.out.2.1 (some ad) c L ?_ HX.out.2.2 (fun h => by cases h) ?_ ?_ ?_; (exact rfl); (exact rfl); (exact rfl); (exact rfl); (simp; omega); (simp); intro A8 c8 w8 h8 b8 _ _; have H8 := Lib.hid (And.intro h8 b8); clear h8 b8)
    go_ret
    exact ⟨A8, c8, rfl, H8.out.1, (HX.out.1.mono (Nat.le_refl _)).trans H8.out.2⟩
end Sx
end Go.Proofs.YtionocafkaemiaaDoor
namespace Go.Proofs.YtionocafkaemiaaDoor
open Go.RowKit Go.Lib
namespace Sx
attribute [local irreducible] wpQuiet
/-- What Add leaves. -/
def AddR (L : List Sm) (a v : Int) (W : World) (e : Ending) (w' : World) : Prop :=
  ∃ A' c', e = .returned (.tuple #[sv A' (addS L a v).1.length c', .int .i64 (addS L a v).2]) ∧ SAt w' A' c' (addS L a v).1 ∧ Below W.heap.size W w'
theorem addR_err {L : List Sm} {a v er : Int} {W w : World} (h : addS L a v = ([], er)) (hb : Below W.heap.size W w) : AddR L a v W (.returned (.tuple #[.agg #[.slice none 0 0], .int .i64 er])) w := by
  unfold AddR
  rw [h]
  exact ⟨none, 0, rfl, eat_nil _, hb⟩
theorem series_sz : (Tryd.prog.info? 24).map (·.size) = some 1 := by kernel_rfl
/-- The end of Add: the row in the result's cell. -/
theorem addR_end {L X : List Sm} {a v : Int} {W w : World} {B c b : Nat} {A : Option Addr} (h : addS L a v = (X, 0)) (hX : OwnE Sx.es 2 w B 49 A c X) (hb : Below W.heap.size W w) (hlt : b < B) (hW : W.heap.size ≤ b) :
    AddR L a v W (.returned (.tuple #[.agg #[.slice A X.length c], .int .i64 0])) (w.setCell ⟨b, 0, none⟩ (.slice A X.length c)) := by
  unfold AddR
  rw [h]
  exact ⟨A, c, rfl, (OwnE.at ES (rowE_far hX (p := b) (fun e => by have := (OwnE.at ES hX).2 b e; omega) b 0)).1, hb.setCell hW _⟩
set_option maxRecDepth 100000 in
set_option maxHeartbeats 8000000 in
theorem add_ok (A : Option Addr) (c : Nat) (L : List Sm) (a v : Int) (W : World) (hL : SAt W A c L) (hnn : A = none → c = 0) :
    Calls Tryd.prog 32 #[sv A L.length c, .int .i64 a, .int .i64 v] W (AddR L a v W) := by
  have hl1 := hL.1
  have hl2 := hL.2.1
  unfold maxLen at hl2
  obtain ⟨k1, k2⟩ := two_boxes W #[.slice A L.length c] #[.slice none 0 0] 24 24
  have hb : Below W.heap.size W ((W.alloc (.cells #[.slice A L.length c] 24)).alloc (.cells #[.slice none 0 0] 24)) := (below_box W _).alloc (by simp) _
  have HC := Lib.hid (fun V (hV : Below W.heap.size W V) => check_ok A c L V (hL.below hV (Nat.le_refl _)))
  have HLs := Lib.hid (And.intro hL hnn)
  go_enter Tryd.func32, Tryd.ntmps32
  go_upto_region 1 with (fail)
  obtain ⟨U, hU⟩ : ∃ U, U = (W.alloc (.cells #[.slice A L.length c] 24)).alloc (.cells #[.slice none 0 0] 24) := ⟨_, rfl⟩
  rw [← hU] at k1 k2 hb ⊢
  have s0 := one_at k1
  have HU := Lib.hid (And.intro hb (And.intro k2 k1))
  clear hU hb k1 k2 hL hnn
  obtain ⟨er, her⟩ : ∃ e, e = checkS L := ⟨_, rfl⟩
  rw [← her] at HC
  have HER := Lib.hid her
  clear her
  go_upto_region 2 with (go_at_call 24; refine (HC.out _ HU.out.1).mono ?_; rintro e w1 ⟨rfl, hb1⟩; replace s0 := cell_keep2 hb1 s0; have H1 := Lib.hid hb1; clear hb1)
  have r1 := heap_keep HU.out.2.1 H1.out
  have z0 := one_at r1
  have zf := frozen_at r1 0
  have HW := Lib.hid (And.intro (HU.out.1.trans (H1.out.mono HU.out.1.size)) r1)
  clear H1 r1 HU
  by_cases hc : er = 0
  · have hcs : checkS L = 0 := by rw [← HER.out]; exact hc
    have hok := (checkS_ok L).1 hcs
    have hl5 := hok.len
    obtain ⟨b1, hb1⟩ : ∃ b, b = inT a := ⟨_, rfl⟩
    obtain ⟨b2, hb2⟩ : ∃ b, b = inT v := ⟨_, rfl⟩
    have HB := Lib.hid (And.intro hb1 hb2)
    have hT1 := fun V => isTime_ok a V
    have hT2 := fun V => isValue_ok v V
    rw [← hb1] at hT1
    rw [← hb2] at hT2
    clear hb1 hb2
    subst hc
    by_cases hbb : (b1 && b2) = false
    · have hS : addS L a v = ([], 7) := by unfold addS; rw [if_neg (by simp [hcs]), if_pos (by rw [← HB.out.1, ← HB.out.2]; exact hbb)]
      have HS := Lib.hid hS
      clear hS hcs hok
      cases b1
      · go_wp2_with (first | (go_at_call 49; refine (hT1 _).mono ?_; rintro e w2 ⟨rfl, hw⟩; have hw := hw.symm; subst hw) | (go_at_call 59; refine (hT2 _).mono ?_; rintro e w2 ⟨rfl, hw⟩; have hw := hw.symm; subst hw))
        refine bodyPost_ret (results_row2 rfl _ _ (W.heap.size + 1) 24 #[.slice none 0 0] (0, 0) _ rfl (Boxed.set _ HW.out.2) Tryd.underlying24 series_sz) rfl ?_
        exact addR_err HS.out (HW.out.1.setCell (Nat.le_succ _) _)
      · simp at hbb
        subst hbb
        go_wp2_with (first | (go_at_call 49; refine (hT1 _).mono ?_; rintro e w2 ⟨rfl, hw⟩; have hw := hw.symm; subst hw) | (go_at_call 59; refine (hT2 _).mono ?_; rintro e w2 ⟨rfl, hw⟩; have hw := hw.symm; subst hw))
        refine bodyPost_ret (results_row2 rfl _ _ (W.heap.size + 1) 24 #[.slice none 0 0] (0, 0) _ rfl (Boxed.set _ HW.out.2) Tryd.underlying24 series_sz) rfl ?_
        exact addR_err HS.out (HW.out.1.setCell (Nat.le_succ _) _)
    · simp only [Bool.not_eq_false, Bool.and_eq_true] at hbb
      obtain ⟨rfl, rfl⟩ := hbb
      have hin : (inT a && inT v) = true := by rw [← HB.out.1, ← HB.out.2]; rfl
      have hS0 : addS L a v = if 0 < L.length ∧ a < (sm L (L.length - 1)).a then ([], 9) else if 0 < L.length ∧ a = (sm L (L.length - 1)).a then (L.set (L.length - 1) ⟨(sm L (L.length - 1)).a, v⟩, 0) else if 0 < L.length ∧ v = (sm L (L.length - 1)).v then (L, 0) else if L.length = 500 then ([], 5) else (L ++ [⟨a, v⟩], 0) := by
        unfold addS
        rw [if_neg (by simp [hcs]), if_neg (by rw [hin]; simp)]
      have HCl := Lib.hid (fun V (hV : Below W.heap.size W V) => clone_ok A c L V (HLs.out.1.below hV (Nat.le_refl _)) HLs.out.2 (by omega))
      have HS0 := Lib.hid hS0
      clear hS0 hin hcs hok HB
      by_cases hn0 : L.length = 0
      · have hS : addS L a v = (L ++ [⟨a, v⟩], 0) := by
          rw [HS0.out, if_neg (by omega), if_neg (by omega), if_neg (by omega), if_neg (by omega)]
        have HS := Lib.hid hS
        obtain rfl : L = [] := List.length_eq_zero_iff.1 hn0
        clear hS HS0 hn0
        go_upto_region 10 with (first | (go_at_call 49; refine (hT1 _).mono ?_; rintro e w2 ⟨rfl, hw⟩; have hw := hw.symm; subst hw) | (go_at_call 59; refine (hT2 _).mono ?_; rintro e w2 ⟨rfl, hw⟩; have hw := hw.symm; subst hw) | (go_at_call 62; refine (HCl.out _ HW.out.1).mono ?_; rintro e w3 ⟨A3, c3, rfl, ho3, hb3⟩; have H3 := Lib.hid (And.intro ho3 hb3); clear ho3 hb3))
        obtain ⟨X2, hX2⟩ : ∃ X2, X2 = ([] : List Sm) ++ [(⟨a, v⟩ : Sm)] := ⟨_, rfl⟩
        have HX2 := Lib.hid hX2
        rw [← hX2] at HS
        clear hX2
        have hbl := lt_of_heap HW.out.2
        go_wp2_with (at_builtin; go_loud (refine wpList_e ES Tryd.underlying22 sample_info (by decide) ?_ (.tmp 49) (.tmp 53) ?_ w1.heap.size A3 c3 [] ?_ (H3.out.1.alloc _) (some ⟨w3.heap.size, 0, none⟩) 1 [⟨a, v⟩] ?_ (oneS w3 _ ⟨a, v⟩) (fun h => by cases h) ?_ ?_ ?_; (exact rfl); (exact rfl); (exact rfl); (exact rfl); (rw [List.length_cons, List.length_nil]; (try rw [List.length_nil]); omega); (simp; have := H3.out.2.size; omega); intro A8 c8 w8 h8 b8 _ _; rw [← HX2.out] at h8 ⊢; have hx3 := H3.out.2.trans ((below_box w3 (.cells #[.int .i64 a, .int .i64 v] 49)).mono H3.out.2.size); have r8 := (b8.block _ hbl).trans (heap_keep HW.out.2 hx3); have z8 := one_at r8; have f8 := frozen_at r8 0; have H8 := Lib.hid (And.intro h8 (And.intro ((HW.out.1.trans (hx3.mono HW.out.1.size)).trans (b8.mono HW.out.1.size)) r8)); clear h8 b8 hx3 r8))
        refine bodyPost_ret (results_row2 rfl _ _ (W.heap.size + 1) 24 #[.slice A8 X2.length c8] (0, 0) _ rfl (Boxed.set _ H8.out.2.2) Tryd.underlying24 series_sz) rfl ?_
        exact addR_end HS.out H8.out.1 H8.out.2.1 hbl (Nat.le_succ _)
      · obtain ⟨k, hk⟩ : ∃ k, L.length = k + 1 := ⟨L.length - 1, by omega⟩
        have hki : (0 : Int) < (k : Int) + 1 := by omega
        have hkk : k < L.length := by omega
        have hS0 := HS0.out
        rw [show L.length - 1 = k by omega] at hS0
        simp only [show 0 < L.length by omega, true_and] at hS0
        have hown3 : ∀ (w : World) B A3 c3, OwnE Sx.es 2 w B 49 A3 c3 L → ∃ g, A3 = some ⟨g, 0, none⟩ ∧ B ≤ g ∧ OwnE Sx.es 2 (w.setCell ⟨g, k * 2 + 1, none⟩ (.int .i64 v)) B 49 A3 c3 (L.set k ⟨(sm L k).a, v⟩) ∧ (∀ i, w.frozen? ⟨g, i, none⟩ = false) ∧ w.cell? ⟨g, k * 2, none⟩ = some (.int .i64 (sm L k).a) ∧ w.cell? ⟨g, k * 2 + 1, none⟩ = some (.int .i64 (sm L k).v) := fun w B A3 c3 h => h.setv hkk v
        obtain ⟨g, o, rfl, hg, d0, d1⟩ := (HLs.out.1.below HW.out.1 (Nat.le_refl _)).s2 hkk
        obtain ⟨la, hla⟩ : ∃ x, x = (sm L k).a := ⟨_, rfl⟩
        obtain ⟨lv, hlv⟩ : ∃ x, x = (sm L k).v := ⟨_, rfl⟩
        rw [← hla] at d0 hown3 hS0
        rw [← hlv] at d1 hown3 hS0
        have HO3 := Lib.hid hown3
        have HK := Lib.hid hk
        have HS1 := Lib.hid hS0
        rw [hk] at hl1 HCl s0 hl5 ⊢
        clear hown3 hla hlv hkk hn0 HS0 hS0 HC
        by_cases h1 : a < la
        · have hS : addS L a v = ([], 9) := by rw [HS1.out, if_pos h1]
          have HS := Lib.hid hS
          clear hS hk
          go_wp2_with (first | (go_at_call 49; refine (hT1 _).mono ?_; rintro e w2 ⟨rfl, hw⟩; have hw := hw.symm; subst hw) | (go_at_call 59; refine (hT2 _).mono ?_; rintro e w2 ⟨rfl, hw⟩; have hw := hw.symm; subst hw))
          refine bodyPost_ret (results_row2 rfl _ _ (W.heap.size + 1) 24 #[.slice none 0 0] (0, 0) _ rfl (Boxed.set _ HW.out.2) Tryd.underlying24 series_sz) rfl ?_
          exact addR_err HS.out (HW.out.1.setCell (Nat.le_succ _) _)
        · have hbl := lt_of_heap HW.out.2
          go_upto_region 11 with (first | (go_at_call 49; refine (hT1 _).mono ?_; rintro e w2 ⟨rfl, hw⟩; have hw := hw.symm; subst hw) | (go_at_call 59; refine (hT2 _).mono ?_; rintro e w2 ⟨rfl, hw⟩; have hw := hw.symm; subst hw) | (go_at_call 62; refine (HCl.out _ HW.out.1).mono ?_; rintro e w3 ⟨A3, c3, rfl, ho3, hb3⟩; have H3 := Lib.hid (And.intro ho3 hb3); clear ho3 hb3))
          obtain ⟨g3, rfl, hg3, hset, hfz, y0, y1⟩ := HO3.out w3 _ A3 c3 H3.out.1
          have r8 := heap_keep HW.out.2 H3.out.2
          have z8 := one_at r8
          have f8 := frozen_at r8 0
          have hW8 := HW.out.1.trans (H3.out.2.mono HW.out.1.size)
          have HSET := Lib.hid hset
          clear hset d0 d1 s0
          by_cases h2 : a = la
          · have hS : addS L a v = (L.set k ⟨la, v⟩, 0) := by rw [HS1.out, if_neg (by omega), if_pos h2]
            have HS := Lib.hid hS
            have hne : W.heap.size + 1 ≠ g3 := by omega
            have r9 : (w3.setCell ⟨g3, k * 2 + 1, none⟩ (.int .i64 v)).heap[W.heap.size + 1]? = some (.cells #[.slice none 0 0] 24 (0, 0)) := (Below.heap_setCell _ _ _ _ (fun e => hne (by first | simpa using e | simpa using e.symm))).trans r8
            have hle : W.heap.size ≤ g3 := by omega
            have H9 := Lib.hid (And.intro r9 (hW8.setCell hle (p := ⟨g3, k * 2 + 1, none⟩) (.int .i64 v)))
            have hz9 := one_at r9
            have hf9 := frozen_at r9 0
            clear hS hne r9 hle hW8 r8 hk
            subst h2
            go_upto_region 16 with (fail)
            generalize hV : w3.setCell ⟨g3, k * 2 + 1, none⟩ (.int .i64 v) = V at *
            have HSE2 := HSET.out
            have hlen : (L.set k ⟨a, v⟩).length = k + 1 := by rw [List.length_set]; exact HK.out
            go_wp2_with (fail)
            refine bodyPost_ret (results_row2 rfl _ _ (W.heap.size + 1) 24 #[.slice (some ⟨g3, 0, none⟩) (k + 1) c3] (0, 0) _ rfl (Boxed.set _ H9.out.1) Tryd.underlying24 series_sz) rfl ?_
            have := addR_end HS.out HSE2 H9.out.2 hbl (Nat.le_succ _)
            rw [hlen] at this
            exact this
          · by_cases h3 : v = lv
            · have hS : addS L a v = (L, 0) := by rw [HS1.out, if_neg (by omega), if_neg h2, if_pos h3]
              have HS := Lib.hid hS
              have H9 := Lib.hid (And.intro r8 hW8)
              have hbe : (a == la) = false := by simpa using h2
              clear hS hW8 r8 hk
              subst h3
              go_wp2_with (fail)
              refine bodyPost_ret (results_row2 rfl _ _ (W.heap.size + 1) 24 #[.slice (some ⟨g3, 0, none⟩) (k + 1) c3] (0, 0) _ rfl (Boxed.set _ H9.out.1) Tryd.underlying24 series_sz) rfl ?_
              have := addR_end HS.out H3.out.1 H9.out.2 hbl (Nat.le_succ _)
              rw [HK.out] at this
              exact this
            · have hbe : (a == la) = false := by simpa using h2
              have hbe2 : (v == lv) = false := by simpa using h3
              by_cases h4 : k + 1 = 500
              · have hS : addS L a v = ([], 5) := by rw [HS1.out, if_neg (by omega), if_neg h2, if_neg h3, if_pos (by rw [HK.out]; exact h4)]
                have HS := Lib.hid hS
                have H9 := Lib.hid (And.intro r8 hW8)
                clear hS hW8 r8 hk
                obtain rfl : k = 499 := by omega
                go_wp2_with (fail)
                refine bodyPost_ret (results_row2 rfl _ _ (W.heap.size + 1) 24 #[.slice none 0 0] (0, 0) _ rfl (Boxed.set _ H9.out.1) Tryd.underlying24 series_sz) rfl ?_
                exact addR_err HS.out (H9.out.2.setCell (Nat.le_succ _) _)
              · have hS : addS L a v = (L ++ [⟨a, v⟩], 0) := by rw [HS1.out, if_neg (by omega), if_neg h2, if_neg h3, if_neg (by rw [HK.out]; exact h4)]
                have HS := Lib.hid hS
                have h4i : ((k : Int) + 1 == 500) = false := by simpa using (show ¬ ((k : Int) + 1 = 500) by omega)
                have h4j : decide ((k : Int) + 1 = 500) = false := decide_eq_false (by omega)
                clear hS hW8 r8
                go_upto_region 10 with (fail)
                obtain ⟨X2, hX2⟩ : ∃ X2, X2 = L ++ [(⟨a, v⟩ : Sm)] := ⟨_, rfl⟩
                have HX2 := Lib.hid hX2
                rw [← hX2] at HS
                have hXl : X2.length = k + 2 := by rw [hX2, List.length_append, HK.out]; rfl
                have HXL := Lib.hid hXl
                clear hX2 hXl
                go_wp2_with (at_builtin; go_loud (refine wpList_e ES Tryd.underlying22 sample_info (by decide) ?_ (.tmp 49) (.tmp 53) ?_ w1.heap.size (some ⟨g3, 0, none⟩) c3 L ?_ (H3.out.1.alloc _) (some ⟨w3.heap.size, 0, none⟩) 1 [⟨a, v⟩] ?_ (oneS w3 _ ⟨a, v⟩) (fun h => by cases h) ?_ ?_ ?_; (exact rfl); (exact rfl); (rw [HK.out]; exact rfl); (exact rfl); (rw [List.length_cons, List.length_nil, HK.out]; omega); (simp; have := H3.out.2.size; omega); intro A8 c8 w8 h8 b8 _ _; rw [← HX2.out] at h8 ⊢; have hx3 := H3.out.2.trans ((below_box w3 (.cells #[.int .i64 a, .int .i64 v] 49)).mono H3.out.2.size); have r8 := (b8.block _ hbl).trans (heap_keep HW.out.2 hx3); replace z8 := one_at r8; replace f8 := frozen_at r8 0; have H8 := Lib.hid (And.intro h8 (And.intro ((HW.out.1.trans (hx3.mono HW.out.1.size)).trans (b8.mono HW.out.1.size)) r8)); clear h8 b8 hx3 r8))
                refine bodyPost_ret (results_row2 rfl _ _ (W.heap.size + 1) 24 #[.slice A8 X2.length c8] (0, 0) _ rfl (Boxed.set _ H8.out.2.2) Tryd.underlying24 series_sz) rfl ?_
                exact addR_end HS.out H8.out.1 H8.out.2.1 hbl (Nat.le_succ _)
  · have hne : (er == 0) = false := by simpa using hc
    have hS : addS L a v = ([], er) := by unfold addS; rw [if_pos (by rw [← HER.out]; exact hc), ← HER.out]
    have HS := Lib.hid hS
    clear hS
    go_wp2_with (first | (go_at_call 49; refine (isTime_ok _ _).mono ?_; rintro e w2 ⟨rfl, hw⟩; have hw := hw.symm; subst hw) | (go_at_call 59; refine (isValue_ok _ _).mono ?_; rintro e w2 ⟨rfl, hw⟩; have hw := hw.symm; subst hw))
    refine bodyPost_ret (results_row2 rfl _ _ (W.heap.size + 1) 24 #[.slice none 0 0] (0, 0) _ rfl (Boxed.set _ HW.out.2) Tryd.underlying24 series_sz) rfl ?_
    exact addR_err HS.out (HW.out.1.setCell (Nat.le_succ _) _)
end Sx
end Go.Proofs.YtionocafkaemiaaDoor
