/- The best one of the steps. The least one of the steps (out of A6 by renaming). -/
import Derived.Test.YtionocafkaemiaaDoorJA5
import Derived.Test.YtionocafkaemiaaDoorJB2
import Derived.Deep.Cut
namespace Go.Proofs.YtionocafkaemiaaDoor
open Go.RowKit Go.Lib
namespace Sx
attribute [local go_sem] Oper.semAt_some

theorem gt_ok (a b : Int) (w : World) : Calls Tryd.prog 58 #[.int .i64 a, .int .i64 b] w fun e w' => e = .returned (.bool (gt a b)) ∧ w' = w := by
  go_enter Tryd.func58, Tryd.ntmps58
  go_wp2
  go_ret
  exact ⟨rfl, rfl⟩
theorem lt_ok (a b : Int) (w : World) : Calls Tryd.prog 60 #[.int .i64 a, .int .i64 b] w fun e w' => e = .returned (.bool (lt a b)) ∧ w' = w := by
  go_enter Tryd.func60, Tryd.ntmps60
  go_wp2
  go_ret
  exact ⟨rfl, rfl⟩
theorem sample_size' : (Tryd.prog.info? 49).map (·.size) = some 2 := by kernel_rfl
theorem ext_snoc {b : Int → Int → Bool} {M : List Sp} {x : Sp} (h : M ≠ []) : extV b (M ++ [x]) = pick b (extV b M) x := by
  cases M with
  | nil => exact absurd rfl h
  | cons y M =>
    show (M ++ [x]).foldl (pick b) y = _
    rw [List.foldl_append]; rfl
theorem upd_keeps {own : Ow} {V : World} {a b : Nat} {x y z : Value} (ha : own a ≠ none) (hb : own b ≠ none) : Keeps own own V (((V.setCell ⟨a, 0, none⟩ x).setCell ⟨a, 1, none⟩ y).setCell ⟨b, 0, none⟩ z) :=
  ⟨rfl, rfl, rfl, Nat.le_of_eq (by simp only [setCell_size]), fun k hk hn => by
    have e1 : k ≠ a := fun e => ha (e ▸ hn)
    have e2 : k ≠ b := fun e => hb (e ▸ hn)
    rw [setCell_far _ _ _ _ e2, setCell_far _ _ _ _ e1, setCell_far _ _ _ _ e1], fun _ _ => rfl, fun _ h => .inl h⟩
theorem set2' {w : World} {u : Nat} {a b x y : Value} {T : TypeId} (h : w.heap[u]? = some (.cells #[a, b] T (0, 0))) : ((w.setCell ⟨u, 0, none⟩ x).setCell ⟨u, 1, none⟩ y).heap[u]? = some (.cells #[x, y] T (0, 0)) := by
  have h1 : (w.setCell ⟨u, 0, none⟩ x).heap[u]? = some (.cells #[x, b] T (0, 0)) := by rw [setCell_at _ _ _ _ _ _ h]; rfl
  rw [setCell_at _ _ _ _ _ _ h1]; rfl
/-- What the body leaves where the step is taken. -/
theorem upd_at {V : World} {s : Nat} {x y z p q r : Value} {o0 o1 : Obj} {T T2 : TypeId} (k0 : V.heap[s]? = some o0) (k1 : V.heap[s + 1]? = some o1) (k2 : V.heap[s + 2]? = some (.cells #[p, q] T (0, 0))) (k3 : V.heap[s + 3]? = some (.cells #[r] T2 (0, 0))) :
    (((V.setCell ⟨s + 2, 0, none⟩ x).setCell ⟨s + 2, 1, none⟩ y).setCell ⟨s + 3, 0, none⟩ z).heap[s]? = some o0 ∧ (((V.setCell ⟨s + 2, 0, none⟩ x).setCell ⟨s + 2, 1, none⟩ y).setCell ⟨s + 3, 0, none⟩ z).heap[s + 1]? = some o1 ∧
    (((V.setCell ⟨s + 2, 0, none⟩ x).setCell ⟨s + 2, 1, none⟩ y).setCell ⟨s + 3, 0, none⟩ z).heap[s + 2]? = some (.cells #[x, y] T (0, 0)) ∧ (((V.setCell ⟨s + 2, 0, none⟩ x).setCell ⟨s + 2, 1, none⟩ y).setCell ⟨s + 3, 0, none⟩ z).heap[s + 3]? = some (.cells #[z] T2 (0, 0)) := by
  refine ⟨?_, ?_, ?_, ?_⟩
  · rw [setCell_far _ _ _ _ (by show s ≠ s + 3; omega), setCell_far _ _ _ _ (by show s ≠ s + 2; omega), setCell_far _ _ _ _ (by show s ≠ s + 2; omega)]; exact k0
  · rw [setCell_far _ _ _ _ (by show s + 1 ≠ s + 3; omega), setCell_far _ _ _ _ (by show s + 1 ≠ s + 2; omega), setCell_far _ _ _ _ (by show s + 1 ≠ s + 2; omega)]; exact k1
  · rw [setCell_far _ _ _ _ (by show s + 2 ≠ s + 3; omega)]; exact set2' k2
  · have h : ((V.setCell ⟨s + 2, 0, none⟩ x).setCell ⟨s + 2, 1, none⟩ y).heap[s + 3]? = some (.cells #[r] T2 (0, 0)) := by rw [setCell_far _ _ _ _ (by show s + 3 ≠ s + 2; omega), setCell_far _ _ _ _ (by show s + 3 ≠ s + 2; omega)]; exact k3
    rw [setCell_at _ _ _ _ _ _ h]; rfl
set_option maxRecDepth 100000 in
set_option maxHeartbeats 4000000 in
theorem peakx_ok (b1 b2 b3 : Nat) (A : Option Addr) (c : Nat) (L : List Sm) (f t : Int) (hcov : Cov L f t) (w : World) (hD : StD A c L f t b1 b2 b3 w) :
    Calls Tryd.prog 57 #[.func (.func 73) #[] #[.pointer (some ⟨b1, 0, none⟩), .pointer (some ⟨b2, 0, none⟩), .pointer (some ⟨b3, 0, none⟩)], .func (.func 58) #[] #[]] w fun e w' => e = .returned (.agg #[.int .i64 (extV gt (stepsV L f t)).f, .int .i64 (extV gt (stepsV L f t)).v]) ∧ Below w.heap.size w w' := by
  have HD := Lib.hid hD
  clear hD
  refine (callsIn_wide (n := 8)).1 ?_
  refine callsIn_of_wp_marks Tryd.func57 rfl trivial ?_ rfl
  simp only [Tryd.ntmps57, List.size_toArray, List.length_cons, List.length_nil, Nat.reduceAdd, Nat.reduceSub, Array.replicate_succ, Array.replicate_zero, List.push_toArray, List.append_toArray, List.nil_append, List.cons_append]
  refine wpIn_wide.2 ?_
  go_wp2_with (fail)
  refine (wpIn_wide (n := 8)).1 ?_
  obtain ⟨s, hs⟩ : ∃ s, s = w.heap.size := ⟨_, rfl⟩
  obtain ⟨W0, hW0⟩ : ∃ W0, W0 = (((w.alloc (.cells #[.func (.func 58) #[] #[]] 93)).alloc (.cells #[.int .i64 0, .int .i64 0] 49)).alloc (.cells #[.int .i64 0, .int .i64 0] 49)).alloc (.cells #[.bool true] 4) := ⟨_, rfl⟩
  rw [← hW0, ← hs]
  have h0 : W0.heap[s]? = some (.cells #[.func (.func 58) #[] #[]] 93 (0, 0)) := by rw [hW0, heapAlloc, if_neg (by first | omega | (simp; omega)), heapAlloc, if_neg (by first | omega | (simp; omega)), heapAlloc, if_neg (by first | omega | (simp; omega)), heapAlloc, if_pos (by first | omega | (simp; omega))]
  have h1 : W0.heap[s + 1]? = some (.cells #[.int .i64 0, .int .i64 0] 49 (0, 0)) := by rw [hW0, heapAlloc, if_neg (by first | omega | (simp; omega)), heapAlloc, if_neg (by first | omega | (simp; omega)), heapAlloc, if_pos (by first | omega | (simp; omega))]
  have h2 : W0.heap[s + 2]? = some (.cells #[.int .i64 0, .int .i64 0] 49 (0, 0)) := by rw [hW0, heapAlloc, if_neg (by first | omega | (simp; omega)), heapAlloc, if_pos (by first | omega | (simp; omega))]
  have h3 : W0.heap[s + 3]? = some (.cells #[.bool true] 4 (0, 0)) := by rw [hW0, heapAlloc, if_pos (by first | omega | (simp; omega))]
  have hb : Below w.heap.size w W0 := by rw [hW0]; exact ((((Below.refl _ _).alloc (Nat.le_refl _) _).alloc (by simp) _).alloc (by first | omega | (simp; omega)) _).alloc (by first | omega | (simp; omega)) _
  have hsz : W0.heap.size = s + 4 := by rw [hW0, hs]; simp
  have HB := Lib.hid (And.intro hb hs)
  clear hb hs hW0
  obtain ⟨own0, hown⟩ : ∃ own0 : Ow, ∀ x, own0 x = if s ≤ x ∧ x < s + 4 then some 0 else none := ⟨fun x => if s ≤ x ∧ x < s + 4 then some 0 else none, fun _ => rfl⟩
  have ho1 : ∀ x, s ≤ x → x < s + 4 → own0 x ≠ none := fun x h1 h2 => by rw [hown, if_pos ⟨h1, h2⟩]; simp
  have ho0 : ∀ x, ¬ (s ≤ x ∧ x < s + 4) → own0 x = none := fun x h => by rw [hown, if_neg h]
  have HO := Lib.hid (And.intro ho1 (And.intro ho0 (And.intro hown hcov)))
  clear ho1 ho0 hown
  have hws := HB.out.2
  refine rangeA (I := fun own pre V => own = own0 ∧ V.heap[s]? = some (.cells #[.func (.func 58) #[] #[]] 93 (0, 0)) ∧ V.heap[s + 1]? = some (.cells #[.int .i64 0, .int .i64 0] 49 (0, 0)) ∧ (∃ b : Sp, V.heap[s + 2]? = some (.cells #[.int .i64 b.f, .int .i64 b.v] 49 (0, 0)) ∧ (pre ≠ [] → b = extV gt pre)) ∧ V.heap[s + 3]? = some (.cells #[.bool pre.isEmpty] 4 (0, 0)))
    (Ix := fun _ _ _ _ => False) rfl (by omega) (gf := 73) (lb := #[.pointer (some ⟨b1, 0, none⟩), .pointer (some ⟨b2, 0, none⟩), .pointer (some ⟨b3, 0, none⟩)]) rfl trivial (enters_of Tryd.func73 (by kernel_rfl) rfl)
    (stepseq (8 - 1) (by omega) b1 b2 b3 A c L f t hcov) own0 ?hf0 ?hD ?hR (fun _ => rfl) ?hE ?hI (fun _ _ _ _ _ h _ _ => h) ?h0 (fun x : Sp => .cells #[.int .i64 x.f, .int .i64 x.v] 49)
    (fun x u => { tmps := #[.func (.func 73) #[] #[.pointer (some ⟨b1, 0, none⟩), .pointer (some ⟨b2, 0, none⟩), .pointer (some ⟨b3, 0, none⟩)], .func (.func 58) #[] #[], undef, .pointer (some ⟨s, 0, none⟩), .pointer (some ⟨s + 1, 0, none⟩), .pointer (some ⟨s + 1 + 1, 0, none⟩), .pointer (some ⟨s + 1 + 1 + 1, 0, none⟩), .pointer (some ⟨u, 0, none⟩), .func (.func 73) #[] #[.pointer (some ⟨b1, 0, none⟩), .pointer (some ⟨b2, 0, none⟩), .pointer (some ⟨b3, 0, none⟩)], .agg #[.int .i64 x.f, .int .i64 x.v], .int .i64 (x.t - x.f), undef, undef, undef, undef, undef, undef, undef, undef, undef, undef, undef], defers := [] }) ?assign ?body ?done ?stop
  case hf0 =>
    intro x hx
    rcases Nat.lt_or_ge x W0.heap.size with h | h
    · exact h
    · exact absurd (HO.out.2.1 x (by omega)) hx
  case hD =>
    intro V hV
    have hwV := HB.out.1.trans (hV.mono HB.out.1.size)
    have hD := HD.out
    exact ⟨Nat.lt_of_lt_of_le hD.l1 hwV.size, Nat.lt_of_lt_of_le hD.l2 hwV.size, Nat.lt_of_lt_of_le hD.l3 hwV.size, cell_keep2 hwV hD.c1, cell_keep2 hwV hD.c2, cell_keep2 hwV hD.c3, hD.row.below hwV (Nat.le_refl _)⟩
  case hR =>
    have hD := HD.out
    have hc := hcov.cov
    have hul := upto_le L f
    intro x hx
    have hxl : x < s := by
      rcases hx with rfl | rfl | rfl | ⟨o, hA⟩
      · have := hD.l1; omega
      · have := hD.l2; omega
      · have := hD.l3; omega
      · obtain ⟨g, o', e, hg, _⟩ := hD.row.s2 (j := 0) (by omega)
        rw [hA] at e; injection e with e; injection e with e1 e2 _
        omega
    exact ⟨HO.out.2.1 x (by omega), by omega⟩
  case hE => exact fun _ _ _ _ => trivial
  case hI =>
    rintro own pre V V' ⟨rfl, k0, k1, ⟨b, k2, hb⟩, k3⟩ hs hk
    exact ⟨rfl, (hk _ (HO.out.1 _ (by omega) (by omega)) (lt_of_heap k0)).trans k0, (hk _ (HO.out.1 _ (by omega) (by omega)) (lt_of_heap k1)).trans k1, ⟨b, (hk _ (HO.out.1 _ (by omega) (by omega)) (lt_of_heap k2)).trans k2, hb⟩, (hk _ (HO.out.1 _ (by omega) (by omega)) (lt_of_heap k3)).trans k3⟩
  case h0 => exact ⟨rfl, h0, h1, ⟨⟨0, 0, 0⟩, h2, fun h => absurd rfl h⟩, h3⟩
  case assign =>
    intro l x V K hK
    gi_wp2
    rw [hws] at hK
    exact hK
  case body =>
    rintro l own pre x V u ⟨rfl, k0, k1, ⟨b, k2, hb⟩, k3⟩ hf hA hob hou
    have hbl := lt_of_heap k2
    have hul := lt_of_heap hob
    have hune : ¬ (s ≤ u ∧ u < s + 4) := fun h => HO.out.1 u h.1 h.2 hou
    have n2 : s + 2 ≠ u := by omega
    have n3 : s + 3 ≠ u := by omega
    have c0 := one_at k0
    have c3 := one_at k3
    obtain ⟨c20, c21⟩ := two_at k2
    obtain ⟨u0, u1⟩ := two_at hob
    have f20 : V.frozen? ⟨s + 2, 0, none⟩ = false := by simp [World.frozen?, k2]
    have f21 : V.frozen? ⟨s + 2, 1, none⟩ = false := by simp [World.frozen?, k2]
    have f3 : V.frozen? ⟨s + 3, 0, none⟩ = false := by simp [World.frozen?, k3]
    have HK := Lib.hid (And.intro k0 (And.intro k1 (And.intro k2 (And.intro k3 (And.intro hb (And.intro hA hob))))))
    clear k0 k1 k2 k3 hb hA hob hws
    cases hp : pre.isEmpty with
    | true =>
      rw [hp] at c3
      gi_wp2
      refine ⟨fun f h => (by cases h), ?_⟩
      gi_wp2
      have hpre : pre = [] := List.isEmpty_iff.1 hp
      obtain ⟨q0, q1, q2, q3⟩ := upd_at (x := .int .i64 x.f) (y := .int .i64 x.v) (z := .bool false) HK.out.1 HK.out.2.1 HK.out.2.2.1 HK.out.2.2.2.1
      exact ⟨own, upd_keeps (HO.out.1 _ (by omega) (by omega)) (HO.out.1 _ (by omega) (by omega)), rfl, q0, q1, ⟨x, q2, fun _ => by rw [hpre]; rfl⟩, by rw [show (pre ++ [x]).isEmpty = false by simp]; exact q3⟩
    | false =>
      rw [hp] at c3
      gi_wp2
      refine ⟨trivial, ?_⟩
      gi_wp2_with (gi_at_call 58; fail)
      refine CallsIn.mono (CallsIn.inRound l (callsIn_wide.2 (gt_ok x.v b.v V))) ?_
      rintro e w' ⟨rfl, rfl⟩
      have hpre : pre ≠ [] := fun e => by rw [e] at hp; simp at hp
      have hsn := ext_snoc (b := gt) (x := x) hpre
      rw [← HK.out.2.2.2.2.1 hpre] at hsn
      unfold pick at hsn
      cases hg : gt x.v b.v with
      | true =>
        rw [hg, if_pos rfl] at hsn
        gi_wp2
        obtain ⟨q0, q1, q2, q3⟩ := upd_at (x := .int .i64 x.f) (y := .int .i64 x.v) (z := .bool false) HK.out.1 HK.out.2.1 HK.out.2.2.1 HK.out.2.2.2.1
        exact ⟨own, upd_keeps (HO.out.1 _ (by omega) (by omega)) (HO.out.1 _ (by omega) (by omega)), rfl, q0, q1, ⟨x, q2, fun _ => hsn.symm⟩, by rw [show (pre ++ [x]).isEmpty = false by simp]; exact q3⟩
      | false =>
        rw [hg, if_neg (by simp)] at hsn
        gi_wp2
        exact ⟨own, Keeps.refl _ _, rfl, HK.out.1, HK.out.2.1, ⟨b, HK.out.2.2.1, fun _ => hsn.symm⟩, by rw [show (pre ++ [x]).isEmpty = false by simp, ← hp]; exact HK.out.2.2.2.1⟩
  case done =>
    rintro own xs V rfl ⟨rfl, k0, k1, ⟨b, k2, hb⟩, k3⟩ hK hd hdv
    have hs := HB.out.2
    subst hs
    have HE := Lib.hid (And.intro k1 (And.intro k2 (And.intro hb (And.intro hK hdv))))
    obtain ⟨c10, c11⟩ := two_at k1
    obtain ⟨c20, c21⟩ := two_at k2
    have f10 : V.frozen? ⟨w.heap.size + 1, 0, none⟩ = false := by simp [World.frozen?, k1]
    have f11 : V.frozen? ⟨w.heap.size + 1, 1, none⟩ = false := by simp [World.frozen?, k1]
    clear k0 k1 k2 k3 hb hK hdv
    go_wp2
    have hK := HE.out.2.2.2.1
    have hdv : ((V.setCell ⟨w.heap.size + 1, 0, none⟩ (.int .i64 b.f)).setCell ⟨w.heap.size + 1, 1, none⟩ (.int .i64 b.v)).heap[w.heap.size + 4]? = some (.deferred (some [])) := by
      rw [setCell_far _ _ _ _ (by show w.heap.size + 4 ≠ w.heap.size + 1; omega), setCell_far _ _ _ _ (by show w.heap.size + 4 ≠ w.heap.size + 1; omega), ← hsz]
      exact HE.out.2.2.2.2
    refine ⟨by simp, .inl ⟨_, _, rfl, run_takeDeferred hdv, ?_⟩⟩
    refine ⟨_, results_cell_row rfl _ _ (w.heap.size + 1) 49 #[.int .i64 b.f, .int .i64 b.v] (0, 0) _ rfl ((World.putObj_heap_other (by omega)).trans (set2' HE.out.1)) Tryd.underlying49 rfl sample_size', ?_, ?_⟩
    · have hne : stepsV L f t ≠ [] := fun e => by
        have := steps_pos HO.out.2.2.2
        rw [e] at this; simp at this
      rw [HE.out.2.2.1 hne]
    · have hB := HB.out.1
      have hBs := hB.size
      refine ⟨hK.os.trans hB.os, hK.tape.trans hB.tape, hK.output.trans hB.output, ?_, fun x hx => ?_⟩
      · have := hK.size; simp; omega
      · rw [World.putObj_heap_other (by omega), setCell_far _ _ _ _ (by show x ≠ w.heap.size + 1; omega), setCell_far _ _ _ _ (by show x ≠ w.heap.size + 1; omega), hK.block x (by omega) (HO.out.2.1 x (by omega))]
        exact hB.block x hx
  case stop =>
    rintro _ _ _ _ _ h
    exact h.elim
end Sx
end Go.Proofs.YtionocafkaemiaaDoor
namespace Go.Proofs.YtionocafkaemiaaDoor
open Go.RowKit Go.Lib
namespace Sx
attribute [local go_sem] Oper.semAt_some
set_option maxRecDepth 100000 in
set_option maxHeartbeats 4000000 in
theorem lowx_ok (b1 b2 b3 : Nat) (A : Option Addr) (c : Nat) (L : List Sm) (f t : Int) (hcov : Cov L f t) (w : World) (hD : StD A c L f t b1 b2 b3 w) :
    Calls Tryd.prog 57 #[.func (.func 73) #[] #[.pointer (some ⟨b1, 0, none⟩), .pointer (some ⟨b2, 0, none⟩), .pointer (some ⟨b3, 0, none⟩)], .func (.func 60) #[] #[]] w fun e w' => e = .returned (.agg #[.int .i64 (extV lt (stepsV L f t)).f, .int .i64 (extV lt (stepsV L f t)).v]) ∧ Below w.heap.size w w' := by
  have HD := Lib.hid hD
  clear hD
  refine (callsIn_wide (n := 8)).1 ?_
  refine callsIn_of_wp_marks Tryd.func57 rfl trivial ?_ rfl
  simp only [Tryd.ntmps57, List.size_toArray, List.length_cons, List.length_nil, Nat.reduceAdd, Nat.reduceSub, Array.replicate_succ, Array.replicate_zero, List.push_toArray, List.append_toArray, List.nil_append, List.cons_append]
  refine wpIn_wide.2 ?_
  go_wp2_with (fail)
  refine (wpIn_wide (n := 8)).1 ?_
  obtain ⟨s, hs⟩ : ∃ s, s = w.heap.size := ⟨_, rfl⟩
  obtain ⟨W0, hW0⟩ : ∃ W0, W0 = (((w.alloc (.cells #[.func (.func 60) #[] #[]] 93)).alloc (.cells #[.int .i64 0, .int .i64 0] 49)).alloc (.cells #[.int .i64 0, .int .i64 0] 49)).alloc (.cells #[.bool true] 4) := ⟨_, rfl⟩
  rw [← hW0, ← hs]
  have h0 : W0.heap[s]? = some (.cells #[.func (.func 60) #[] #[]] 93 (0, 0)) := by rw [hW0, heapAlloc, if_neg (by first | omega | (simp; omega)), heapAlloc, if_neg (by first | omega | (simp; omega)), heapAlloc, if_neg (by first | omega | (simp; omega)), heapAlloc, if_pos (by first | omega | (simp; omega))]
  have h1 : W0.heap[s + 1]? = some (.cells #[.int .i64 0, .int .i64 0] 49 (0, 0)) := by rw [hW0, heapAlloc, if_neg (by first | omega | (simp; omega)), heapAlloc, if_neg (by first | omega | (simp; omega)), heapAlloc, if_pos (by first | omega | (simp; omega))]
  have h2 : W0.heap[s + 2]? = some (.cells #[.int .i64 0, .int .i64 0] 49 (0, 0)) := by rw [hW0, heapAlloc, if_neg (by first | omega | (simp; omega)), heapAlloc, if_pos (by first | omega | (simp; omega))]
  have h3 : W0.heap[s + 3]? = some (.cells #[.bool true] 4 (0, 0)) := by rw [hW0, heapAlloc, if_pos (by first | omega | (simp; omega))]
  have hb : Below w.heap.size w W0 := by rw [hW0]; exact ((((Below.refl _ _).alloc (Nat.le_refl _) _).alloc (by simp) _).alloc (by first | omega | (simp; omega)) _).alloc (by first | omega | (simp; omega)) _
  have hsz : W0.heap.size = s + 4 := by rw [hW0, hs]; simp
  have HB := Lib.hid (And.intro hb hs)
  clear hb hs hW0
  obtain ⟨own0, hown⟩ : ∃ own0 : Ow, ∀ x, own0 x = if s ≤ x ∧ x < s + 4 then some 0 else none := ⟨fun x => if s ≤ x ∧ x < s + 4 then some 0 else none, fun _ => rfl⟩
  have ho1 : ∀ x, s ≤ x → x < s + 4 → own0 x ≠ none := fun x h1 h2 => by rw [hown, if_pos ⟨h1, h2⟩]; simp
  have ho0 : ∀ x, ¬ (s ≤ x ∧ x < s + 4) → own0 x = none := fun x h => by rw [hown, if_neg h]
  have HO := Lib.hid (And.intro ho1 (And.intro ho0 (And.intro hown hcov)))
  clear ho1 ho0 hown
  have hws := HB.out.2
  refine rangeA (I := fun own pre V => own = own0 ∧ V.heap[s]? = some (.cells #[.func (.func 60) #[] #[]] 93 (0, 0)) ∧ V.heap[s + 1]? = some (.cells #[.int .i64 0, .int .i64 0] 49 (0, 0)) ∧ (∃ b : Sp, V.heap[s + 2]? = some (.cells #[.int .i64 b.f, .int .i64 b.v] 49 (0, 0)) ∧ (pre ≠ [] → b = extV lt pre)) ∧ V.heap[s + 3]? = some (.cells #[.bool pre.isEmpty] 4 (0, 0)))
    (Ix := fun _ _ _ _ => False) rfl (by omega) (gf := 73) (lb := #[.pointer (some ⟨b1, 0, none⟩), .pointer (some ⟨b2, 0, none⟩), .pointer (some ⟨b3, 0, none⟩)]) rfl trivial (enters_of Tryd.func73 (by kernel_rfl) rfl)
    (stepseq (8 - 1) (by omega) b1 b2 b3 A c L f t hcov) own0 ?hf0 ?hD ?hR (fun _ => rfl) ?hE ?hI (fun _ _ _ _ _ h _ _ => h) ?h0 (fun x : Sp => .cells #[.int .i64 x.f, .int .i64 x.v] 49)
    (fun x u => { tmps := #[.func (.func 73) #[] #[.pointer (some ⟨b1, 0, none⟩), .pointer (some ⟨b2, 0, none⟩), .pointer (some ⟨b3, 0, none⟩)], .func (.func 60) #[] #[], undef, .pointer (some ⟨s, 0, none⟩), .pointer (some ⟨s + 1, 0, none⟩), .pointer (some ⟨s + 1 + 1, 0, none⟩), .pointer (some ⟨s + 1 + 1 + 1, 0, none⟩), .pointer (some ⟨u, 0, none⟩), .func (.func 73) #[] #[.pointer (some ⟨b1, 0, none⟩), .pointer (some ⟨b2, 0, none⟩), .pointer (some ⟨b3, 0, none⟩)], .agg #[.int .i64 x.f, .int .i64 x.v], .int .i64 (x.t - x.f), undef, undef, undef, undef, undef, undef, undef, undef, undef, undef, undef], defers := [] }) ?assign ?body ?done ?stop
  case hf0 =>
    intro x hx
    rcases Nat.lt_or_ge x W0.heap.size with h | h
    · exact h
    · exact absurd (HO.out.2.1 x (by omega)) hx
  case hD =>
    intro V hV
    have hwV := HB.out.1.trans (hV.mono HB.out.1.size)
    have hD := HD.out
    exact ⟨Nat.lt_of_lt_of_le hD.l1 hwV.size, Nat.lt_of_lt_of_le hD.l2 hwV.size, Nat.lt_of_lt_of_le hD.l3 hwV.size, cell_keep2 hwV hD.c1, cell_keep2 hwV hD.c2, cell_keep2 hwV hD.c3, hD.row.below hwV (Nat.le_refl _)⟩
  case hR =>
    have hD := HD.out
    have hc := hcov.cov
    have hul := upto_le L f
    intro x hx
    have hxl : x < s := by
      rcases hx with rfl | rfl | rfl | ⟨o, hA⟩
      · have := hD.l1; omega
      · have := hD.l2; omega
      · have := hD.l3; omega
      · obtain ⟨g, o', e, hg, _⟩ := hD.row.s2 (j := 0) (by omega)
        rw [hA] at e; injection e with e; injection e with e1 e2 _
        omega
    exact ⟨HO.out.2.1 x (by omega), by omega⟩
  case hE => exact fun _ _ _ _ => trivial
  case hI =>
    rintro own pre V V' ⟨rfl, k0, k1, ⟨b, k2, hb⟩, k3⟩ hs hk
    exact ⟨rfl, (hk _ (HO.out.1 _ (by omega) (by omega)) (lt_of_heap k0)).trans k0, (hk _ (HO.out.1 _ (by omega) (by omega)) (lt_of_heap k1)).trans k1, ⟨b, (hk _ (HO.out.1 _ (by omega) (by omega)) (lt_of_heap k2)).trans k2, hb⟩, (hk _ (HO.out.1 _ (by omega) (by omega)) (lt_of_heap k3)).trans k3⟩
  case h0 => exact ⟨rfl, h0, h1, ⟨⟨0, 0, 0⟩, h2, fun h => absurd rfl h⟩, h3⟩
  case assign =>
    intro l x V K hK
    gi_wp2
    rw [hws] at hK
    exact hK
  case body =>
    rintro l own pre x V u ⟨rfl, k0, k1, ⟨b, k2, hb⟩, k3⟩ hf hA hob hou
    have hbl := lt_of_heap k2
    have hul := lt_of_heap hob
    have hune : ¬ (s ≤ u ∧ u < s + 4) := fun h => HO.out.1 u h.1 h.2 hou
    have n2 : s + 2 ≠ u := by omega
    have n3 : s + 3 ≠ u := by omega
    have c0 := one_at k0
    have c3 := one_at k3
    obtain ⟨c20, c21⟩ := two_at k2
    obtain ⟨u0, u1⟩ := two_at hob
    have f20 : V.frozen? ⟨s + 2, 0, none⟩ = false := by simp [World.frozen?, k2]
    have f21 : V.frozen? ⟨s + 2, 1, none⟩ = false := by simp [World.frozen?, k2]
    have f3 : V.frozen? ⟨s + 3, 0, none⟩ = false := by simp [World.frozen?, k3]
    have HK := Lib.hid (And.intro k0 (And.intro k1 (And.intro k2 (And.intro k3 (And.intro hb (And.intro hA hob))))))
    clear k0 k1 k2 k3 hb hA hob hws
    cases hp : pre.isEmpty with
    | true =>
      rw [hp] at c3
      gi_wp2
      refine ⟨fun f h => (by cases h), ?_⟩
      gi_wp2
      have hpre : pre = [] := List.isEmpty_iff.1 hp
      obtain ⟨q0, q1, q2, q3⟩ := upd_at (x := .int .i64 x.f) (y := .int .i64 x.v) (z := .bool false) HK.out.1 HK.out.2.1 HK.out.2.2.1 HK.out.2.2.2.1
      exact ⟨own, upd_keeps (HO.out.1 _ (by omega) (by omega)) (HO.out.1 _ (by omega) (by omega)), rfl, q0, q1, ⟨x, q2, fun _ => by rw [hpre]; rfl⟩, by rw [show (pre ++ [x]).isEmpty = false by simp]; exact q3⟩
    | false =>
      rw [hp] at c3
      gi_wp2
      refine ⟨trivial, ?_⟩
      gi_wp2_with (gi_at_call 60; fail)
      refine CallsIn.mono (CallsIn.inRound l (callsIn_wide.2 (lt_ok x.v b.v V))) ?_
      rintro e w' ⟨rfl, rfl⟩
      have hpre : pre ≠ [] := fun e => by rw [e] at hp; simp at hp
      have hsn := ext_snoc (b := lt) (x := x) hpre
      rw [← HK.out.2.2.2.2.1 hpre] at hsn
      unfold pick at hsn
      cases hg : lt x.v b.v with
      | true =>
        rw [hg, if_pos rfl] at hsn
        gi_wp2
        obtain ⟨q0, q1, q2, q3⟩ := upd_at (x := .int .i64 x.f) (y := .int .i64 x.v) (z := .bool false) HK.out.1 HK.out.2.1 HK.out.2.2.1 HK.out.2.2.2.1
        exact ⟨own, upd_keeps (HO.out.1 _ (by omega) (by omega)) (HO.out.1 _ (by omega) (by omega)), rfl, q0, q1, ⟨x, q2, fun _ => hsn.symm⟩, by rw [show (pre ++ [x]).isEmpty = false by simp]; exact q3⟩
      | false =>
        rw [hg, if_neg (by simp)] at hsn
        gi_wp2
        exact ⟨own, Keeps.refl _ _, rfl, HK.out.1, HK.out.2.1, ⟨b, HK.out.2.2.1, fun _ => hsn.symm⟩, by rw [show (pre ++ [x]).isEmpty = false by simp, ← hp]; exact HK.out.2.2.2.1⟩
  case done =>
    rintro own xs V rfl ⟨rfl, k0, k1, ⟨b, k2, hb⟩, k3⟩ hK hd hdv
    have hs := HB.out.2
    subst hs
    have HE := Lib.hid (And.intro k1 (And.intro k2 (And.intro hb (And.intro hK hdv))))
    obtain ⟨c10, c11⟩ := two_at k1
    obtain ⟨c20, c21⟩ := two_at k2
    have f10 : V.frozen? ⟨w.heap.size + 1, 0, none⟩ = false := by simp [World.frozen?, k1]
    have f11 : V.frozen? ⟨w.heap.size + 1, 1, none⟩ = false := by simp [World.frozen?, k1]
    clear k0 k1 k2 k3 hb hK hdv
    go_wp2
    have hK := HE.out.2.2.2.1
    have hdv : ((V.setCell ⟨w.heap.size + 1, 0, none⟩ (.int .i64 b.f)).setCell ⟨w.heap.size + 1, 1, none⟩ (.int .i64 b.v)).heap[w.heap.size + 4]? = some (.deferred (some [])) := by
      rw [setCell_far _ _ _ _ (by show w.heap.size + 4 ≠ w.heap.size + 1; omega), setCell_far _ _ _ _ (by show w.heap.size + 4 ≠ w.heap.size + 1; omega), ← hsz]
      exact HE.out.2.2.2.2
    refine ⟨by simp, .inl ⟨_, _, rfl, run_takeDeferred hdv, ?_⟩⟩
    refine ⟨_, results_cell_row rfl _ _ (w.heap.size + 1) 49 #[.int .i64 b.f, .int .i64 b.v] (0, 0) _ rfl ((World.putObj_heap_other (by omega)).trans (set2' HE.out.1)) Tryd.underlying49 rfl sample_size', ?_, ?_⟩
    · have hne : stepsV L f t ≠ [] := fun e => by
        have := steps_pos HO.out.2.2.2
        rw [e] at this; simp at this
      rw [HE.out.2.2.1 hne]
    · have hB := HB.out.1
      have hBs := hB.size
      refine ⟨hK.os.trans hB.os, hK.tape.trans hB.tape, hK.output.trans hB.output, ?_, fun x hx => ?_⟩
      · have := hK.size; simp; omega
      · rw [World.putObj_heap_other (by omega), setCell_far _ _ _ _ (by show x ≠ w.heap.size + 1; omega), setCell_far _ _ _ _ (by show x ≠ w.heap.size + 1; omega), hK.block x (by omega) (HO.out.2.1 x (by omega))]
        exact hB.block x hx
  case stop =>
    rintro _ _ _ _ _ h
    exact h.elim
end Sx
end Go.Proofs.YtionocafkaemiaaDoor
