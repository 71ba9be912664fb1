/- loads. Load, Peak. -/
import Derived.Test.YtjgakcpjphdicaaK18
import Derived.Test.YtjgakcpjphdicaaK2
import Derived.Laws.Tables
import Derived.Test.YtjgakcpjphdicaaK3
namespace Go.Proofs.Ytjgakcpjphdicaa
open Go.RowKit
namespace Of

theorem zero_row : Try.zeroCells70.toList = List.replicate 1001 (.int .i64 0) := by kernel_rfl
theorem zero_rowI {w : World} {g : Nat} (h : w.heap[g]? = some (.cells Try.zeroCells70 70 (0, 0))) : RowI 70 w g (diffs []) :=
  ⟨_, h, by rw [zero_row]; unfold diffs ci; rw [List.foldl_nil, List.map_replicate]⟩
theorem arr_size : (Try.prog.info? 70).map (·.size) = some 1001 := by kernel_rfl
theorem below_setRow {w : World} {r n : Nat} (h : n ≤ r) (cs : Array Value) : Below n w (w.setRow r cs) :=
  ⟨rfl, rfl, rfl, by simp, fun k hk => setRow_other w r k cs (by omega)⟩
/-- While the sums are made. -/
def part (D : List Int) (i : Nat) : List Int := (List.range i).map (fun j => pre D (j + 1)) ++ D.drop i
theorem part_len {D : List Int} {i : Nat} (h : i ≤ D.length) : (part D i).length = D.length := by unfold part; simp; omega
theorem part_lo {D : List Int} {i j : Nat} (h : j < i) : addr (part D i) j = pre D (j + 1) := by
  unfold part addr
  rw [List.getD_eq_getElem?_getD, List.getElem?_append_left (by simp; exact h)]
  simp [h]
theorem part_hi {D : List Int} {i : Nat} : addr (part D i) i = addr D i := by
  unfold part addr
  rw [List.getD_eq_getElem?_getD, List.getElem?_append_right (by simp), List.getD_eq_getElem?_getD]
  simp
theorem part_next {D : List Int} {i : Nat} (h : i < D.length) : (part D i).set i (pre D (i + 1)) = part D (i + 1) := by
  unfold part
  rw [List.set_append_right _ _ (by simp)]
  simp only [List.length_map, List.length_range, Nat.sub_self]
  rw [List.drop_eq_getElem_cons h, List.set_cons_zero, List.range_succ, List.map_append]
  simp
theorem part_one {D : List Int} (h : 0 < D.length) : part D 1 = D := by
  unfold part
  obtain ⟨x, D, rfl⟩ : ∃ x E, D = x :: E := by
    cases D with
    | nil => simp at h
    | cons x E => exact ⟨x, E, rfl⟩
  simp [pre]
theorem part_all {D : List Int} {n : Nat} (h : D.length = n) : part D n = (List.range n).map fun j => pre D (j + 1) := by
  unfold part
  rw [List.drop_eq_nil_of_le (by omega), List.append_nil]

set_option maxRecDepth 100000 in
set_option maxHeartbeats 4000000 in
theorem loads_ok (A : Option Addr) (c : Nat) (L : List OB) (hL : OkL L) (w : World) (h : OBAt w A c L) :
    Calls Try.prog 48 #[.slice A L.length c] w fun e w' => ∃ cs : Array Value, e = .returned (.agg cs) ∧ cs.toList = ci ((List.range 1001).map fun (t : Nat) => loadV L t) ∧ Below w.heap.size w w' := by
  have hcap := h.2.1
  have hlc := h.1
  have hlen := hL.1
  unfold maxLen at hcap
  have HX := Lib.hid h
  have HL := Lib.hid hL
  have hz0 := zero_rowI (heap_alloc2_new w (.cells Try.zeroCells70 70) (.cells Try.zeroCells70 70))
  have hz1 := zero_rowI (heap_alloc2_old w (.cells Try.zeroCells70 70) (.cells Try.zeroCells70 70))
  have hb0 : Below w.heap.size w ((w.alloc (.cells Try.zeroCells70 70)).alloc (.cells Try.zeroCells70 70)) := ((Below.refl _ _).alloc (Nat.le_refl _) _).alloc (by simp) _
  have hs0 : ((w.alloc (.cells Try.zeroCells70 70)).alloc (.cells Try.zeroCells70 70)).heap.size = w.heap.size + 2 := by simp
  have H0 := Lib.hid (And.intro hz0 (And.intro hz1 (And.intro hb0 hs0)))
  clear h hL hz0 hz1 hb0 hs0
  go_enter Try.func48, Try.ntmps48
  go_upto_region 2 with (fail)
  generalize hW0 : (w.alloc (.cells Try.zeroCells70 70)).alloc (.cells Try.zeroCells70 70) = W0 at *
  clear hW0
  obtain ⟨r, hr⟩ : ∃ r, r = w.heap.size := ⟨_, rfl⟩
  rw [← hr] at H0 ⊢
  have HR := Lib.hid hr
  clear hr
  go_wp2_with (fail)
  go_loopw [9] (fun i wr => ∃ k : Nat, k ≤ L.length ∧ i = .int .i64 k ∧ RowI 70 wr (r + 1) (diffs (L.take k)) ∧ RowI 70 wr r (diffs []) ∧ Below r w wr ∧ r + 2 ≤ wr.heap.size) (fun i _ => L.length - (intOf i).toNat)
  case atStart => exact ⟨0, Nat.zero_le _, rfl, by simpa using H0.out.1, H0.out.2.1, H0.out.2.2.1, by have := H0.out.2.2.2; omega⟩
  case round =>
    obtain ⟨k, hk, rfl, hd, hz, hb, hsz⟩ := hrel
    by_cases hlt : k < L.length
    · have hZ := HX.out.below hb (by rw [HR.out]; exact Nat.le_refl _)
      obtain ⟨g, o, rfl, hg, d0, d1, d2, d3⟩ := hZ.at hlt
      have hob := HL.out.blk k
      have hbd := fun i => diffs_bd (L := L.take k) (fun b hb => HL.out.2 b (List.mem_of_mem_take hb)) i
      have hkl : (L.take k).length = k := by simp; omega
      rw [hkl] at hbd
      have hdl := diffs_len (L.take k)
      have hnext : diffs (L.take (k + 1)) = diff1 (diffs (L.take k)) (blk L k) := by rw [take_next (blk_get hlt), diffs_snoc]
      generalize diffs (L.take k) = D at *
      generalize blk L k = b at *
      obtain ⟨s1, s2, _, hf0, hft, ht1⟩ := hob
      obtain ⟨s, a, f, u⟩ := b
      dsimp only at d0 d1 d2 d3 s1 s2 hf0 hft ht1
      obtain ⟨f, rfl⟩ := Int.eq_ofNat_of_zero_le hf0
      obtain ⟨u, rfl⟩ := Int.eq_ofNat_of_zero_le (show 0 ≤ u by omega)
      have hc1 := hd.cell (j := f) (by omega)
      have hf1 := hd.frozen f
      have hc2 := hd.cell (j := u) (by omega)
      have hf2 := hd.frozen u
      have hbf := hbd f
      have hbu := hbd u
      have hset1 := fun (W : World) (hW : W.heap[r + 1]? = wr.heap[r + 1]?) => (hd.keep hW).set f (addr D f + s)
      have hset2 := fun (W : World) (hW : RowI 70 W (r + 1) (D.set f (addr D f + s))) => hW.set u (addr D u - s)
      have hdiff : diff1 D ⟨s, a, (f : Int), (u : Int)⟩ = (D.set f (addr D f + s)).set u (addr D u - s) := by
        unfold diff1 bump
        simp only [Int.toNat_natCast]
        rw [addr_set (by omega), if_neg (by omega)]
        rfl
      rw [hdiff] at hnext
      generalize hx1 : addr D f = x1 at *
      generalize hx2 : addr D u = x2 at *
      have HH := Lib.hid (And.intro hnext (And.intro hset1 (And.intro hset2 (And.intro hz hb))))
      have hfu : ¬ (u : Int) = (f : Int) := by omega
      have hg1 : g ≠ r + 1 := by have := HX.out.block (by omega); have := HR.out; omega
      clear hnext hset1 hset2 hz hb hZ hd hbd hdiff hx1 hx2 hkl
      have hsz1 : r + 1 < wr.heap.size := by omega
      have hsz2 : r + 1 ≠ wr.heap.size := by omega
      have e1 : (f : Int) < 1001 := by omega
      have e2 : (u : Int) < 1001 := by omega
      have hsum : IntKind.i64.wrap (x1 + s) = x1 + s := IntWalk.i64_in _ (by omega)
      have hsub : IntKind.i64.wrap (x2 - s) = x2 - s := IntWalk.i64_in _ (by omega)
      go_wp2_with (fail)
      go_region
      go_wp2_with (fail)
      go_region
      go_wp2
      go_roundw
      case rel =>
        obtain ⟨g1, g2, g3, g4, g5⟩ := HH.out
        refine ⟨k + 1, by omega, by go_num, ?_, ?_, ?_, ?_⟩
        · rw [g1]
          exact (g3 _ (g2 wr rfl)).keep (alloc_old ((wr.setCell ⟨r + 1, f, none⟩ (.int .i64 (x1 + s))).setCell ⟨r + 1, u, none⟩ (.int .i64 (x2 - s))) _ _ (by rw [setCell_size, setCell_size]; omega))
        · refine g4.keep ((alloc_old ((wr.setCell ⟨r + 1, f, none⟩ (.int .i64 (x1 + s))).setCell ⟨r + 1, u, none⟩ (.int .i64 (x2 - s))) _ _ (by rw [setCell_size, setCell_size]; omega)).trans ?_)
          rw [setCell_far _ _ _ _ (show r ≠ r + 1 by omega), setCell_far _ _ _ _ (show r ≠ r + 1 by omega)]
        · have hq : Below r w ((wr.setCell ⟨r + 1, f, none⟩ (.int .i64 (x1 + s))).setCell ⟨r + 1, u, none⟩ (.int .i64 (x2 - s))) := (g5.setCell (show r ≤ r + 1 by omega) _).setCell (show r ≤ r + 1 by omega) _
          exact below_drew (below_drew (hq.alloc (by rw [setCell_size, setCell_size]; omega) _))
        · simp; omega
      case measure => simp [intOf]; omega
    · obtain rfl : k = L.length := by omega
      rw [List.take_length] at hd
      have hD := diffs_len L
      have hbd := diffs_bd (fun b hb => HL.out.2 b hb)
      have hpd := pre_diffs (fun b hb => HL.out.2 b hb)
      have hlb := fun t => loadV_take HL.out L.length t
      rw [List.take_length] at hlb
      obtain ⟨D, hDe⟩ : ∃ D, D = diffs L := ⟨_, rfl⟩
      rw [← hDe] at hd hD hbd hpd
      have hp1 := part_one (D := D) (by omega)
      have HH := Lib.hid (And.intro hp1 (And.intro hbd (And.intro hpd (And.intro hlb (And.intro hd (And.intro hz hb))))))
      have HDL := Lib.hid hD
      clear hp1 hbd hpd hlb hd hz hb hD hDe
      have HDL2 := Lib.hid HDL.out
      go_wp2_with (fail)
      go_loopw [6] (fun i wr => ∃ k : Nat, 1 ≤ k ∧ k ≤ 1001 ∧ i = .int .i64 k ∧ RowI 70 wr (r + 1) (part D k) ∧ RowI 70 wr r (diffs []) ∧ Below r w wr ∧ r + 2 ≤ wr.heap.size) (fun i _ => 1001 - (intOf i).toNat)
      case atStart => exact ⟨1, Nat.le_refl _, by omega, rfl, by rw [HH.out.1]; exact HH.out.2.2.2.2.1, HH.out.2.2.2.2.2.1, HH.out.2.2.2.2.2.2, hsz⟩
      case round =>
        obtain ⟨k, hk1, hk, rfl, hd, hz, hb, hsz'⟩ := hrel
        by_cases hlt : k < 1001
        · have hDL := HDL.out
          have hpl := part_len (D := D) (i := k) (by omega)
          obtain ⟨j, rfl⟩ : ∃ j, k = j + 1 := ⟨k - 1, by omega⟩
          have hc1 := hd.cell (j := j + 1) (by omega)
          have hc2 := hd.cell (j := j) (by omega)
          have hf1 := hd.frozen (j + 1)
          rw [part_hi] at hc1
          rw [part_lo (by omega)] at hc2
          have hps := pre_succ (D := D) (n := j + 1) (by omega)
          have hset := hd.set (j + 1) (pre D (j + 1 + 1))
          rw [part_next (by omega)] at hset
          have hl1 := HH.out.2.2.1 j (by omega)
          have hl2 := HH.out.2.2.2.1 (j : Int)
          rw [← hl1] at hl2
          have hbj := HH.out.2.1 (j + 1)
          generalize hx1 : pre D (j + 1) = x1 at *
          generalize hx2 : addr D (j + 1) = x2 at *
          rw [hps] at hset
          have HK := Lib.hid (And.intro hset (And.intro hz hb))
          have hsum : IntKind.i64.wrap (x2 + x1) = x1 + x2 := by rw [IntWalk.i64_in _ (by omega)]; omega
          have hjm : IntKind.i64.wrap (((j + 1 : Nat) : Int) - 1) = (j : Int) := by rw [IntWalk.i64_in _ (by omega)]; omega
          have hjm2 : ((j + 1 : Nat) : Int) - 1 = (j : Int) := by omega
          have hsz1 : r + 1 < wr.heap.size := by omega
          have e1 : ((j + 1 : Nat) : Int) < 1001 := by omega
          have e2 : (j : Int) < 1001 := by omega
          clear hd hz hb hset hl1 hl2 hps hx1 hx2 hDL hpl hbj
          go_wp2_with (fail)
          go_region
          go_wp2
          go_roundw
          case rel =>
            obtain ⟨g1, g2, g3⟩ := HK.out
            exact ⟨j + 1 + 1, by omega, by omega, by go_num, g1, g2.keep (setCell_far _ _ _ _ (by show r ≠ r + 1; omega)), (below_drew g3).setCell (by show r ≤ r + 1; omega) _, by simp; omega⟩
          case measure => simp [intOf]; omega
        · obtain rfl : k = 1001 := by omega
          rw [part_all HDL.out] at hd
          have hlv : (List.range 1001).map (fun j => pre D (j + 1)) = (List.range 1001).map fun (t : Nat) => loadV L t := by
            apply List.map_congr_left
            intro t ht
            exact HH.out.2.2.1 t (List.mem_range.1 ht)
          rw [hlv] at hd
          obtain ⟨cs, h1, h2⟩ := hd
          obtain ⟨cz, z1, z2⟩ := hz
          have hcs : cs.size = 1001 := by rw [← Array.length_toList, h2, ci_len]; simp
          have hczs : cz.size = 1001 := by rw [← Array.length_toList, z2, ci_len, diffs_len]
          have hone : cs.all (·.oneCell') = true := by
            rw [Array.all_eq_true_iff_forall_mem]
            intro v hv
            exact ci_one _ v (by rw [← h2]; simpa using hv)
          have HK := Lib.hid (And.intro h2 (And.intro hone (And.intro hcs (And.intro hczs hb))))
          have hi : (Try.prog.info? 70).map (·.size) = some cs.size := by rw [hcs]; exact arr_size
          clear h2 hone hcs hczs hb z2 hlv
          go_wp2_with (first
            | (refine wpList_load_row rfl 70 _ rfl (r + 1) rfl 70 cs (0, 0) _ h1 Try.underlying70 rfl hi ?_)
            | (refine wpList_store_row rfl 70 _ _ rfl r cs rfl rfl 70 cz z1 hi (by rw [HK.out.2.2.2.1, HK.out.2.2.1]) HK.out.2.1 ?_))
          have hrow : (wr.setRow r cs).heap[r]? = some (.cells cs 70 (0, 0)) := setRow_heap wr r cz cs _ _ z1
          refine bodyPost_ret (v := .agg cs) (results_cell_row rfl _ _ r 70 cs (0, 0) _ rfl hrow Try.underlying70 rfl hi) rfl ⟨cs, rfl, HK.out.1, ?_⟩
          rw [← HR.out]
          exact HK.out.2.2.2.2.trans (below_setRow (Nat.le_refl _) cs)
end Of
end Go.Proofs.Ytjgakcpjphdicaa
namespace Go.Proofs.Ytjgakcpjphdicaa
open Go.RowKit
namespace Of

theorem i64_agg : Try.prog.underlying 2 = some (.int .i64) := Try.underlying2
theorem run_index_row (W : World) (cs : Array Value) (f : Nat → Int) (hcs : cs.toList = ci ((List.range 1001).map f)) (t : Nat) (ht : t < 1001) :
    (Instr.index 70 (.agg cs) (.int .i64 (t : Int))).run Try.prog W = .ok (.int .i64 (f t)) W := by
  have hx : cs[t]? = some (.int .i64 (f t)) := by
    rw [← Array.getElem?_toList, hcs]
    exact ci_get (by simp [ht])
  have h1 : (0 : Int) ≤ (t : Int) ∧ (t : Int) < ((1001 : Nat) : Int) := by omega
  have hz : (sizeOf 2).run Try.prog W = .ok 1 W := Try.sizeOf2 W
  have ha : (isAgg 2).run Try.prog W = .ok false W := Try.isAgg2 W
  simp [Instr.index, run_underlying Try.underlying70, asIntOf, h1, go_sem, hz, part, ha, hx]
  intro h; omega
set_option maxRecDepth 100000 in
set_option maxHeartbeats 2000000 in
theorem Load_ok (A : Option Addr) (c : Nat) (L : List OB) (t : Int) (w : World) (h : OBAt w A c L) :
    Calls Try.prog 24 #[.slice A L.length c, .int .i64 t] w fun e w' => e = .returned (.tuple #[.int .i64 (loadRes L t).1, .int .i64 (loadRes L t).2]) ∧ Below w.heap.size w w' := by
  have hc := check_ok A c L w h
  rcases checkV_cases L with hv | hv | hv
  · have hL := (checkV_ok L).1 hv
    have hl := fun W (hb : Below w.heap.size w W) => loads_ok A c L hL W (h.below hb (Nat.le_refl _))
    rw [hv] at hc
    unfold loadRes
    rw [hv, if_neg (by simp)]
    have HC := Lib.hid hc
    have HL := Lib.hid hl
    clear hc hl hL hv h
    by_cases ht : t < 0
    · rw [if_pos (.inl ht)]
      go_enter Try.func24, Try.ntmps24
      go_wp2_with (go_at_call 27; refine HC.out.mono ?_; rintro e w' ⟨rfl, hb⟩; have HB := Lib.hid hb; clear hb)
      go_ret2
      exact ⟨rfl, HB.out⟩
    · by_cases ht2 : 1000 < t
      · rw [if_pos (.inr ht2)]
        go_enter Try.func24, Try.ntmps24
        go_wp2_with (go_at_call 27; refine HC.out.mono ?_; rintro e w' ⟨rfl, hb⟩; have HB := Lib.hid hb; clear hb)
        go_ret2
        exact ⟨rfl, HB.out⟩
      · rw [if_neg (by omega)]
        obtain ⟨t, rfl⟩ := Int.eq_ofNat_of_zero_le (show 0 ≤ t by omega)
        go_enter Try.func24, Try.ntmps24
        go_wp2_with (first | (go_at_call 27; refine HC.out.mono ?_; rintro e w' ⟨rfl, hb⟩; have HB := Lib.hid hb; clear hb) | (go_at_call 48; refine (HL.out _ HB.out).mono ?_; rintro e w2 ⟨cs, rfl, hcs, hb2⟩; have hix := fun W => run_index_row W cs _ hcs t (by omega); have HX := Lib.hid hb2; clear hcs hb2))
        go_ret2
        exact ⟨rfl, HB.out.trans (HX.out.mono HB.out.size)⟩
  all_goals
    rw [hv] at hc
    unfold loadRes
    rw [hv, if_pos (by simp)]
    have HC := Lib.hid hc
    clear hc hv h
    go_enter Try.func24, Try.ntmps24
    go_wp2_with (go_at_call 27; refine HC.out.mono ?_; rintro e w' ⟨rfl, hb⟩; have HB := Lib.hid hb; clear hb)
    go_ret2
    exact ⟨rfl, HB.out⟩

set_option maxRecDepth 100000 in
set_option maxHeartbeats 2000000 in
theorem Peak_ok (A : Option Addr) (c : Nat) (L : List OB) (w : World) (h : OBAt w A c L) :
    Calls Try.prog 21 #[.slice A L.length c] w fun e w' => e = .returned (.tuple #[.int .i64 (peakRes L).1, .int .i64 (peakRes L).2.1, .int .i64 (peakRes L).2.2]) ∧ Below w.heap.size w w' := by
  have hc := check_ok A c L w h
  rcases checkV_cases L with hv | hv | hv
  · have hL := (checkV_ok L).1 hv
    have hl := fun W (hb : Below w.heap.size w W) => loads_ok A c L hL W (h.below hb (Nat.le_refl _))
    rw [hv] at hc
    unfold peakRes
    rw [hv, if_neg (by simp)]
    have hfb : ∀ t : Nat, 0 ≤ loadV L t ∧ loadV L t ≤ 32768000 := fun t => by have := loadV_take hL L.length t; rwa [List.take_length] at this
    unfold peakV
    have hl' : ∀ W, Below w.heap.size w W → Calls Try.prog 48 #[.slice A L.length c] W fun e w' => ∃ cs : Array Value, e = .returned (.agg cs) ∧ cs.toList = ci ((List.range 1001).map (fun t : Nat => loadV L t)) ∧ Below W.heap.size W w' := hl
    generalize hf : (fun t : Nat => loadV L t) = f at *
    have hfe : ∀ t : Nat, loadV L t = f t := fun t => by rw [← hf]
    have hfb' : ∀ t : Nat, 0 ≤ f t ∧ f t ≤ 32768000 := fun t => by rw [← hfe]; exact hfb t
    have hpb := fun n => pk_bd (f := f) (B := 32768000) (by omega) (fun t => (hfb' t).2) n
    have HC := Lib.hid hc
    have HL := Lib.hid hl'
    have HF := Lib.hid (And.intro hfb' hpb)
    clear hc hl hl' hL hv h hf hfe hfb hfb' hpb
    go_enter Try.func21, Try.ntmps21
    go_wp2_with (first | (go_at_call 27; refine HC.out.mono ?_; rintro e w' ⟨rfl, hb⟩; have HB := Lib.hid hb; clear hb) | (go_at_call 48; refine (HL.out _ HB.out).mono ?_; rintro e w2 ⟨cs, rfl, hcs, hb2⟩; have hix := fun W => run_index_row W cs _ hcs; have HI := Lib.hid hix; have HX := Lib.hid hb2; clear hcs hb2 hix))
    go_loop [2, 3, 15] (fun best at_ i => ∃ k : Nat, k ≤ 1001 ∧ i = .int .i64 k ∧ best = .int .i64 (pk f k).1 ∧ at_ = .int .i64 ((pk f k).2 : Int)) (fun _ _ i => 1001 - (intOf i).toNat)
    case atStart => exact ⟨0, Nat.zero_le _, rfl, rfl, rfl⟩
    case round =>
      obtain ⟨k, hk, rfl, rfl, rfl⟩ := hrel
      by_cases hlt : k < 1001
      · have e1 : (k : Int) < 1001 := by omega
        have hix := fun W => HI.out W k hlt
        have hfk := HF.out.1 k
        have hpk := HF.out.2 k
        have hnext : pk f (k + 1) = if (pk f k).1 < f k then (f k, k) else pk f k := rfl
        obtain ⟨p, hp⟩ : ∃ p, p = pk f k := ⟨_, rfl⟩
        rw [← hp] at hnext hpk ⊢
        obtain ⟨p1, p2⟩ := p
        dsimp only at hpk hnext ⊢
        generalize hfv : f k = v at *
        by_cases hgt : p1 < v
        · rw [if_pos hgt] at hnext
          have HN := Lib.hid hnext
          clear hnext hp hfv
          go_wp2
          go_round
          case rel => exact ⟨k + 1, by omega, by go_num, by rw [HN.out], by rw [HN.out]⟩
          case measure => simp [intOf]; omega
        · rw [if_neg hgt] at hnext
          have HN := Lib.hid hnext
          clear hnext hp hfv
          go_wp2
          go_round
          case rel => exact ⟨k + 1, by omega, by go_num, by rw [HN.out], by rw [HN.out]⟩
          case measure => simp [intOf]; omega
      · obtain rfl : k = 1001 := by omega
        go_wp2
        go_ret3
        exact ⟨rfl, HB.out.trans (HX.out.mono HB.out.size)⟩
  all_goals
    rw [hv] at hc
    unfold peakRes
    rw [hv, if_pos (by simp)]
    have HC := Lib.hid hc
    clear hc hv h
    go_enter Try.func21, Try.ntmps21
    go_wp2_with (go_at_call 27; refine HC.out.mono ?_; rintro e w' ⟨rfl, hb⟩; have HB := Lib.hid hb; clear hb)
    go_ret3
    exact ⟨rfl, HB.out⟩
end Of
end Go.Proofs.Ytjgakcpjphdicaa
