/- The specification: Peak, Low. -/
import Derived.Test.YtionocafkaemiaaDoorJR4
import Derived.Laws.ResultCell
namespace Go.Proofs.YtionocafkaemiaaDoor
open Go.RowKit Go.Lib
namespace Sx

theorem two_boxes (w : World) (cs ds : Array Value) (T S : TypeId) : ((w.alloc (.cells cs T)).alloc (.cells ds S)).heap[w.heap.size]? = some (.cells cs T (0, 0)) ∧ ((w.alloc (.cells cs T)).alloc (.cells ds S)).heap[w.heap.size + 1]? = some (.cells ds S (0, 0)) := by
  constructor
  · rw [alloc_old _ _ _ (by simp), heapAlloc, if_pos rfl]
  · rw [heapAlloc, if_pos (by simp)]
theorem results_row2 {fn : Func} {p u : Tmp} {ty : TypeId} (h : fn.results = #[.cell p ty, .tmp u]) (tmps : Array Value) (w : World) (g : Nat) (t : TypeId) (cs : Array Value) (fr : Nat × Nat) (fs : Array Field)
    (hp : tmps.getD p undef = .pointer (some ⟨g, 0, none⟩)) (hg : w.heap[g]? = some (.cells cs t fr))
    (hu : Tryd.prog.underlying ty = some (.struct fs)) (hi : (Tryd.prog.info? ty).map (·.size) = some cs.size) :
    (results fn tmps).run Tryd.prog w = .ok (.tuple #[.agg cs, tmps.getD u undef]) w := by
  have hp' : tmps[p]?.getD undef = .pointer (some ⟨g, 0, none⟩) := by simpa using hp
  rw [results_cell_tmp h]
  rw [show (asAddr (tmps.getD p undef)).run Tryd.prog w = .ok ⟨g, 0, none⟩ w by rw [hp]; rfl]
  simp only [Result.andThen]
  rw [run_loadVar_row w g t ty cs fr _ hg hu rfl hi]
theorem sample_size : (Tryd.prog.info? 49).map (·.size) = some 2 := by kernel_rfl
theorem set3 {w : World} {u : Nat} {a b c x y z : Value} {T : TypeId} (h : w.heap[u]? = some (.cells #[a, b, c] T (0, 0))) : (((w.setCell ⟨u, 0, none⟩ x).setCell ⟨u, 1, none⟩ y).setCell ⟨u, 2, none⟩ z).heap[u]? = some (.cells #[x, y, z] T (0, 0)) := by
  have h1 : (w.setCell ⟨u, 0, none⟩ x).heap[u]? = some (.cells #[x, b, c] T (0, 0)) := by rw [setCell_at _ _ _ _ _ _ h]; rfl
  have h2 : ((w.setCell ⟨u, 0, none⟩ x).setCell ⟨u, 1, none⟩ y).heap[u]? = some (.cells #[x, y, c] T (0, 0)) := by rw [setCell_at _ _ _ _ _ _ h1]; rfl
  rw [setCell_at _ _ _ _ _ _ h2]; rfl
theorem set2 {w : World} {u : Nat} {a b x y : Value} {T : TypeId} (h : w.heap[u]? = some (.cells #[a, b] T (0, 0))) : ((w.setCell ⟨u, 0, none⟩ x).setCell ⟨u, 1, none⟩ y).heap[u]? = some (.cells #[x, y] T (0, 0)) := by
  have h1 : (w.setCell ⟨u, 0, none⟩ x).heap[u]? = some (.cells #[x, b] T (0, 0)) := by rw [setCell_at _ _ _ _ _ _ h]; rfl
  rw [setCell_at _ _ _ _ _ _ h1]; rfl
theorem below_set2 {n u : Nat} {W w : World} {x y : Value} (h : Below n W w) (hu : n ≤ u) : Below n W ((w.setCell ⟨u, 0, none⟩ x).setCell ⟨u, 1, none⟩ y) := (h.setCell hu _).setCell hu _
attribute [local irreducible] wpQuiet
set_option maxRecDepth 100000 in
set_option maxHeartbeats 4000000 in
theorem peakR_ok (A : Option Addr) (c : Nat) (L : List Sm) (f t : Int) (W : World) (hL : SAt W A c L) :
    Calls Tryd.prog 25 #[sv A L.length c, .int .i64 f, .int .i64 t] W fun e w' => e = .returned (.tuple #[.agg #[.int .i64 (extS gt L f t).1.a, .int .i64 (extS gt L f t).1.v], .int .i64 (extS gt L f t).2]) ∧ Below W.heap.size W w' := by
  obtain ⟨k1, k2⟩ := two_boxes W #[.slice A L.length c] #[.int .i64 0, .int .i64 0] 24 49
  have hb : Below W.heap.size W ((W.alloc (.cells #[.slice A L.length c] 24)).alloc (.cells #[.int .i64 0, .int .i64 0] 49)) := (below_box W _).alloc (by simp) _
  have hcm := hL.2.1
  have hlc := hL.1
  unfold maxLen at hcm
  have hAK := fun V (hV : Below W.heap.size W V) => askedR_ok A c L f t V (hL.below hV (Nat.le_refl _))
  by_cases hask : askS L f t = 0
  · have hcov := ask_cov.1 hask
    have hST := fun V (hV : Below W.heap.size W V) => stepsR_ok A c L f t V (hL.below hV (Nat.le_refl _)) hcov.ok
    have hpos := steps_pos hcov
    have hsl := steps_len L f t
    have hlen := hcov.ok.len
    have hx : extS gt L f t = (⟨(extV gt (stepsV L f t)).f, (extV gt (stepsV L f t)).v⟩, 0) := by unfold extS; rw [if_neg (by omega)]
    have hext := ext_ref (b := gt) (fun v => by unfold gt; simp) (stepsV L f t)
    rw [hx]
    rw [hask] at hAK
    have HX := Lib.hid (And.intro hb (And.intro k1 (And.intro k2 (And.intro hAK (And.intro hST hext)))))
    clear hb k1 k2 hAK hST hL hask hcov hx hext
    go_enter Tryd.func25, Tryd.ntmps25
    go_upto_region 1 with (fail)
    generalize (W.alloc (.cells #[.slice A L.length c] 24)).alloc (.cells #[.int .i64 0, .int .i64 0] 49) = V at *
    have s0 : V.cell? ⟨W.heap.size, 0, none⟩ = some (.slice A L.length c) := one_at HX.out.2.1
    go_upto_region 4 with (go_at_call 42; refine (HX.out.2.2.2.1 _ HX.out.1).mono ?_; rintro e w1 ⟨rfl, hb1⟩)
    replace s0 := cell_keep2 hb1 s0
    have H1 := Lib.hid (And.intro (HX.out.1.trans (hb1.mono HX.out.1.size)) (show w1.heap[W.heap.size + 1]? = some (.cells #[.int .i64 0, .int .i64 0] 49 (0, 0)) by rw [hb1.block _ (lt_of_heap HX.out.2.2.1)]; exact HX.out.2.2.1))
    clear hb1
    go_upto_region 5 with (go_at_call 48; refine (HX.out.2.2.2.2.1 _ H1.out.1).mono ?_; rintro e w2 ⟨⟨B, d, rfl, hM⟩, hb2⟩)
    have H2 := Lib.hid (And.intro (H1.out.1.trans (hb2.mono H1.out.1.size)) (show w2.heap[W.heap.size + 1]? = some (.cells #[.int .i64 0, .int .i64 0] 49 (0, 0)) by rw [hb2.block _ (lt_of_heap H1.out.2)]; exact H1.out.2))
    have hMc := hM.1
    have hMm := hM.2.1
    unfold maxLen at hMm
    generalize hMeq : stepsV L f t = M at *
    have HME := Lib.hid hMeq
    clear hMeq
    obtain ⟨g, o, rfl, hg, d3⟩ := hM.2.2 0 _ (sp_get hpos)
    have e0 := d3 0 _ (by omega) rfl
    have e1 := d3 1 _ (by omega) rfl
    have e2 := d3 2 _ (by omega) rfl
    rw [Nat.zero_mul, Nat.add_zero] at e0 e1 e2
    have hMp : (0 : Int) < (M.length : Int) := by omega
    have HM := Lib.hid hM
    have hext := HX.out.2.2.2.2.2
    generalize hx0 : sp M 0 = x0 at *
    obtain ⟨xf, xt, xv⟩ := x0
    dsimp only at e0 e1 e2
    have HEX := Lib.hid hext
    clear hM hb2 d3 hext hx0 s0
    go_upto_region 6 with (fail)
    obtain ⟨u, hu⟩ : ∃ u, u = w2.heap.size := ⟨_, rfl⟩
    obtain ⟨V3, hV3⟩ : ∃ V3, V3 = w2.alloc (.cells #[.int .i64 xf, .int .i64 xt, .int .i64 xv] 83) := ⟨_, rfl⟩
    rw [← hV3, ← hu]
    have hbx : V3.heap[u]? = some (.cells #[.int .i64 xf, .int .i64 xt, .int .i64 xv] 83 (0, 0)) := by rw [hV3, hu]; exact new_at w2 _
    have hb3 : Below w2.heap.size w2 V3 := by rw [hV3]; exact below_box w2 _
    have HV := Lib.hid (And.intro hu (And.intro hbx hb3))
    clear hV3 hu hbx hb3 e0 e1 e2
    go_wp2_with (fail)
    go_loopw [11] (fun i wr => ∃ (k : Nat) (b : Sp), k ≤ M.length ∧ i = .int .i64 (k : Int) ∧ b = (M.take k).foldl (pick gt) ⟨xf, xt, xv⟩ ∧ wr.heap[u]? = some (.cells #[.int .i64 b.f, .int .i64 b.t, .int .i64 b.v] 83 (0, 0)) ∧ Below w2.heap.size w2 wr) (fun i _ => M.length - (intOf i).toNat)
    case atStart => exact ⟨0, _, Nat.zero_le _, rfl, rfl, HV.out.2.1, HV.out.2.2⟩
    case round =>
      obtain ⟨k, b, hk, rfl, hbf, hbl, hbw⟩ := hrel
      obtain ⟨bf, bt, bv⟩ := b
      dsimp only at hbl
      by_cases hlt : k < M.length
      · have hlti : (k : Int) < (M.length : Int) := by omega
        obtain ⟨g', o', he, hg', d3⟩ := (HM.out.below hbw (Nat.le_refl _)).2.2 k _ (sp_get hlt)
        injection he with he; injection he with he1 he2 _
        subst he1; subst he2
        have e0 := d3 0 _ (by omega) rfl
        have e1 := d3 1 _ (by omega) rfl
        have e2 := d3 2 _ (by omega) rfl
        have hnx : (M.take (k + 1)).foldl (pick gt) ⟨xf, xt, xv⟩ = pick gt ⟨bf, bt, bv⟩ (sp M k) := by
          rw [hbf, List.take_add_one, sp_get hlt, List.foldl_append]
          rfl
        generalize sp M k = y at *
        obtain ⟨yf, yt, yv⟩ := y
        dsimp only at e0 e1 e2
        obtain ⟨z0, z1, z2⟩ := three_at hbl
        have HR := Lib.hid (And.intro hnx (And.intro hbl hbw))
        have hul : ∀ j, wr.frozen? ⟨u, j, none⟩ = false := fun j => by simp [World.frozen?, hbl]
        clear hbf hnx hbl hbw d3 hg'
        by_cases hgt : bv < yv
        · rw [Nat.add_zero] at e0
          go_upto_region 9 with (fail)
          go_quiet (fail)
          go_wp2_with (fail)
          refine ⟨⟨k + 1, ⟨yf, yt, yv⟩, by omega, by go_num, ?_, set3 HR.out.2.1, ?_⟩, by simp [intOf]; omega⟩
          · rw [HR.out.1]; unfold pick gt; simp [hgt]
          · exact (((below_drewN HR.out.2.2 nq).setCell (by rw [HV.out.1]; exact Nat.le_refl _) _).setCell (by rw [HV.out.1]; exact Nat.le_refl _) _).setCell (by rw [HV.out.1]; exact Nat.le_refl _) _
        · rw [Nat.add_zero] at e0
          go_upto_region 9 with (fail)
          go_quiet (fail)
          go_wp2_with (fail)
          refine ⟨⟨k + 1, ⟨bf, bt, bv⟩, by omega, by go_num, ?_, HR.out.2.1, below_drewN HR.out.2.2 nq⟩, by simp [intOf]; omega⟩
          rw [HR.out.1]; unfold pick gt; simp [hgt]
      · obtain rfl : k = M.length := by omega
        rw [List.take_length] at hbf
        obtain ⟨z0, z1, z2⟩ := three_at hbl
        have hrb : wr.heap[W.heap.size + 1]? = some (.cells #[.int .i64 0, .int .i64 0] 49 (0, 0)) := by rw [hbw.block _ (lt_of_heap H2.out.2)]; exact H2.out.2
        have hf : ∀ j, wr.frozen? ⟨W.heap.size + 1, j, none⟩ = false := fun j => by simp [World.frozen?, hrb]
        obtain ⟨r0, r1⟩ := two_at hrb
        have hbW := H2.out.1.trans (hbw.mono H2.out.1.size)
        have hkey : extV gt M = ⟨bf, bt, bv⟩ := (HEX.out.symm.trans hbf.symm)
        have HR := Lib.hid (And.intro hkey (And.intro hrb hbW))
        clear hbf hbl hbw hkey hbW
        go_wp2_with (fail)
        refine bodyPost_ret (results_row2 rfl _ _ (W.heap.size + 1) 49 #[.int .i64 bf, .int .i64 bv] (0, 0) _ rfl (set2 HR.out.2.1) Tryd.underlying49 sample_size) rfl ⟨?_, ?_⟩
        · rw [HME.out, HR.out.1]; rfl
        · exact below_set2 HR.out.2.2 (Nat.le_succ _)
  · have hx : extS gt L f t = (⟨0, 0⟩, askS L f t) := by unfold extS; rw [if_pos hask]
    rw [hx]
    have HX := Lib.hid (And.intro hb (And.intro k1 (And.intro k2 hAK)))
    generalize askS L f t = e at *
    clear hb k1 k2 hAK hL hx
    go_enter Tryd.func25, Tryd.ntmps25
    go_upto_region 1 with (fail)
    generalize (W.alloc (.cells #[.slice A L.length c] 24)).alloc (.cells #[.int .i64 0, .int .i64 0] 49) = V at *
    have s0 : V.cell? ⟨W.heap.size, 0, none⟩ = some (.slice A L.length c) := one_at HX.out.2.1
    go_upto_region 2 with (go_at_call 42; refine (HX.out.2.2.2 _ HX.out.1).mono ?_; rintro e w1 ⟨rfl, hb1⟩)
    have hrb : w1.heap[W.heap.size + 1]? = some (.cells #[.int .i64 0, .int .i64 0] 49 (0, 0)) := by rw [hb1.block _ (lt_of_heap HX.out.2.2.1)]; exact HX.out.2.2.1
    have hf : ∀ j, w1.frozen? ⟨W.heap.size + 1, j, none⟩ = false := fun j => by simp [World.frozen?, hrb]
    obtain ⟨r0, r1⟩ := two_at hrb
    have HR := Lib.hid (And.intro hrb (HX.out.1.trans (hb1.mono HX.out.1.size)))
    clear hb1 s0
    go_wp2_with (fail)
    refine bodyPost_ret (results_row2 rfl _ _ (W.heap.size + 1) 49 #[.int .i64 0, .int .i64 0] (0, 0) _ rfl (set2 HR.out.1) Tryd.underlying49 sample_size) rfl ⟨rfl, ?_⟩
    exact below_set2 HR.out.2 (Nat.le_succ _)
end Sx
end Go.Proofs.YtionocafkaemiaaDoor
