/- slices.Values over a row of integers. slices.AppendSeq over slices.Values of a row of integers. -/
import Derived.Test.YtjgakcpjphdicaaK9
import Derived.Test.YtjgakcpjphdicaaK19
import Derived.Maps.OwnIn
import Derived.Maps.AppendAt
namespace Go.Proofs.Ytjgakcpjphdicaa
open Go.RowKit Go.Shelf
namespace Of
attribute [local go_sem] Oper.semAt_some

theorem values_ok (w : World) (A : Option Addr) (n cap : Nat) :
    Calls Try.prog 57 #[.slice A n cap] w fun e w' => e = .returned (.func (.func 73) #[] #[.pointer (some ⟨w.heap.size, 0, none⟩)]) ∧
      w' = w.alloc (.cells #[.slice A n cap] 25) := by
  go_enter Try.func57, Try.ntmps57
  go_wp2
  go_ret
  exact ⟨rfl, rfl⟩

set_option maxRecDepth 100000 in
set_option maxHeartbeats 2000000 in
/-- Its iterator: the places, in order. -/
theorem valseq (n : Nat) (hn : 2 ≤ n) (b1 : Nat) (A : Option Addr) (cap : Nat) (M : List Int) (hM : M.length ≤ 1000000) :
    SeqZ Fence.wide n Try.prog 73 #[.pointer (some ⟨b1, 0, none⟩)] (fun x : Int => #[.int .i64 x])
      (fun W => b1 < W.heap.size ∧ W.cell? ⟨b1, 0, none⟩ = some (.slice A M.length cap)) (fun W => IAt W A cap M)
      (fun k => k = b1) (fun xs => xs = M) (fun pre => ∃ k, k < M.length ∧ pre = M.take (k + 1)) (fun pre x => ∃ k : Nat, M[k]? = some x ∧ pre = M.take k) := by
  intro l J Jx own0 W ⟨hbs, hD⟩ hR hE hf hFJ hFJx hY h0
  have HY := Lib.hid hY
  have HE := Lib.hid hE
  have hcl := (hE _ _ _ h0).1
  have hcm := (hE _ _ _ h0).2.1
  unfold maxLen at hcm
  have hR1 := hR b1 rfl
  have HOR := Lib.hid hR1
  clear hY hR hE hR1
  obtain ⟨N, hN⟩ : ∃ N, N = M.length := ⟨_, rfl⟩
  rw [← hN] at hD hM hcl ⊢
  have HN := Lib.hid hN
  clear hN
  have hdp : Fence.wide.depth.isSome = false := rfl
  have hn1 : 1 ≤ n := by omega
  refine callsIn_of_wp Try.func73 rfl trivial ?_ rfl
  simp only [Try.ntmps73, List.size_toArray, List.length_cons, List.length_nil, Nat.reduceAdd, Nat.reduceSub, Array.replicate_succ, Array.replicate_zero, List.push_toArray, List.append_toArray, List.nil_append, List.cons_append]
  gi_wp2
  gi_loopw [7] (fun v wr => ∃ (k : Nat) (own : Ow), k ≤ N ∧ v = .int .i64 (k : Int) ∧ J own (M.take k) wr ∧ Keeps own0 own W wr) (fun v _ => N - (intOf v).toNat)
  case atStart => exact ⟨0, own0, Nat.zero_le _, rfl, by rw [List.take_zero]; exact h0, Keeps.refl _ _⟩
  case round =>
    obtain ⟨k, own, hk, rfl, hJ, hK⟩ := hrel
    by_cases hlt : k < N
    · have e0 : (0 : Int) ≤ (k : Int) := by omega
      have e1 : (k : Int) < (N : Int) := by omega
      obtain ⟨p, hp⟩ : ∃ p, M[k]? = some p := ⟨_, List.getElem?_eq_getElem (by have := HN.out; omega)⟩
      obtain ⟨g, oo, rfl, hrow, d0⟩ := (HE.out own _ wr hJ).2.2 k p hp
      obtain ⟨fn, tmps, assign, body, hy, hRd⟩ := HY.out own (M.take k) p wr hJ (hf.keeps hK) ⟨k, hp, rfl⟩
      have hnx : M.take (k + 1) = M.take k ++ [p] := take_next hp
      have HJ := Lib.hid (And.intro hJ (And.intro hK (And.intro hnx hlt)))
      clear hJ hK hnx hp
      gi_wp2
      refine hRd.mono ?_
      rintro e W3 ⟨own3, hK3, (⟨rfl, hJ3⟩ | ⟨rfl, hJ3⟩)⟩
      · have H3 := Lib.hid (And.intro hJ3 hK3)
        clear hJ3 hK3
        gi_wp2
        go_roundw
        case rel => exact ⟨k + 1, own3, by omega, by go_num, by rw [HJ.out.2.2.1]; exact H3.out.1, HJ.out.2.1.trans H3.out.2⟩
        case measure => simp [intOf]; omega
      · have H3 := Lib.hid (And.intro hJ3 hK3)
        clear hJ3 hK3
        gi_wp2
        refine bodyPost_ret (results_none rfl _ _ _) rfl ?_
        exact ⟨⟨_, rfl⟩, own3, HJ.out.2.1.trans H3.out.2, .inr ⟨_, ⟨k, HJ.out.2.2.2, rfl⟩, by rw [HJ.out.2.2.1]; exact H3.out.1⟩⟩
    · obtain rfl : k = N := by omega
      have HJ := Lib.hid (And.intro hJ hK)
      clear hJ hK
      gi_wp2
      go_end0
      exact ⟨⟨_, rfl⟩, own, HJ.out.2, .inl ⟨_, by rw [HN.out, List.take_length], HJ.out.1⟩⟩
end Of
end Go.Proofs.Ytjgakcpjphdicaa
namespace Go.Proofs.Ytjgakcpjphdicaa
open Go.RowKit Go.Shelf
namespace Of
attribute [local go_sem] Oper.semAt_some

theorem int_info : (Try.prog.info? 3).map (fun i => (i.zero.isSome, i.zero.map (fun z => z.cells.size), i.size, i.bytes)) = some (true, some 1, 1, 8) := by kernel_rfl
/-- The caller's variable, and its row. -/
def OutI (bo : Nat) (own : Ow) (pre : List Int) (V : World) : Prop :=
  ∃ A c, Boxed V bo 25 (.slice A pre.length c) ∧ V.ownsRow bo 3 1 (.slice A pre.length c) pre.length (ci pre) ∧ own bo ≠ none ∧ ∀ g, (Value.slice A pre.length c).ownBlock = some g → own g ≠ none

theorem outI_keep {bo : Nat} {own : Ow} {L : List Int} {V V' : World} (h : OutI bo own L V) (hk : ∀ x, own x ≠ none → x < V.heap.size → V'.heap[x]? = V.heap[x]?) : OutI bo own L V' := by
  obtain ⟨A, c, hb, hr, ho, hg⟩ := h
  refine ⟨A, c, (hk _ ho hb.lt).trans hb, ⟨hr.1, ?_⟩, ho, hg⟩
  rcases hr.2 with hn | ⟨g, cap, cur, e, hB, hgg, rest⟩
  · exact .inl hn
  · exact .inr ⟨g, cap, cur, e, hB, by rw [hk g (hg g (by rw [e]; rfl)) (lt_of_heap hgg)]; exact hgg, rest⟩

theorem outI_step {bo : Nat} {own : Ow} {pre : List Int} {V w1 : World} {x : Int} {A : Option Addr} {c : Nat} {ob : Obj} {v' : Value}
    (hb : Boxed V bo 25 (.slice A pre.length c)) (hr : V.ownsRow bo 3 1 (.slice A pre.length c) pre.length (ci pre)) (ho : own bo ≠ none) (hg : ∀ g, (Value.slice A pre.length c).ownBlock = some g → own g ≠ none)
    (hown : w1.ownsRow bo 3 1 v' (pre.length + 1) (ci pre ++ [.int .i64 x])) (hgrow : (V.alloc ob).grownBy w1 (Value.slice A pre.length c).ownBlock)
    (hat : v'.ownBlock = (Value.slice A pre.length c).ownBlock ∨ v'.ownBlock = some (V.alloc ob).heap.size) :
    ∃ own', Keeps own own' V (w1.setCell ⟨bo, 0, none⟩ v') ∧ OutI bo own' (pre ++ [x]) (w1.setCell ⟨bo, 0, none⟩ v') := by
  have hbl := hb.lt
  obtain ⟨h1, h2, h3, _, h5⟩ := hb.appended (by decide) hr (Nat.le_of_lt hbl) (Nat.le_refl bo) hown hgrow
  obtain ⟨gg, cap, rfl⟩ := ownsRow_succ hown
  have hgs := hgrow.size
  simp at hgs
  refine ⟨fun y => if V.heap.size ≤ y ∧ y = gg then some 0 else own y, ⟨h5.os, h5.tape, h5.output, ?_, fun y hy hn => ?_, fun y hy => ?_, fun y hy => ?_⟩, some ⟨gg, 0, none⟩, cap, by simpa using h2, ?_, ?_, fun g hg' => ?_⟩
  · rw [setCell_size]; omega
  · rw [setCell_far _ _ _ _ (fun e => by rw [e] at hn; exact ho hn), hgrow.block y (by simp; omega) (fun e => hg y e.symm hn)]
    exact Below.heap_alloc _ _ _ hy
  · show (if V.heap.size ≤ y ∧ y = gg then some 0 else own y) = own y
    rw [if_neg (by omega)]
  · by_cases e : V.heap.size ≤ y ∧ y = gg
    · right
      refine ⟨e.1, ?_⟩
      rw [setCell_size, e.2]
      exact (hown.lt gg rfl).2
    · left
      rwa [if_neg e] at hy
  · have : ci (pre ++ [x]) = ci pre ++ [.int .i64 x] := ci_add _ _
    rw [this]; simpa using h3
  · show (if V.heap.size ≤ bo ∧ bo = gg then some 0 else own bo) ≠ none
    rw [if_neg (by omega)]; exact ho
  · obtain rfl : gg = g := by simpa [Value.ownBlock] using hg'
    show (if V.heap.size ≤ gg ∧ gg = gg then some 0 else own gg) ≠ none
    by_cases e : V.heap.size ≤ gg
    · rw [if_pos ⟨e, rfl⟩]; simp
    · rw [if_neg (by omega)]
      rcases hat with hat | hat
      · exact hg gg hat.symm
      · simp [Value.ownBlock] at hat; omega

set_option maxRecDepth 100000 in
set_option maxHeartbeats 4000000 in
theorem appendSeq_ok (w : World) (b1 : Nat) (A : Option Addr) (cap : Nat) (M : List Int) (hb1 : b1 < w.heap.size) (hc1 : w.cell? ⟨b1, 0, none⟩ = some (.slice A M.length cap)) (hM : IAt w A cap M) (hne : M ≠ [] → ∀ g, A.map (·.block) = some g → g ≠ b1) (hlen : M.length ≤ 100000) :
    Calls Try.prog 89 #[.slice none 0 0, .func (.func 73) #[] #[.pointer (some ⟨b1, 0, none⟩)]] w fun e w' => (∃ A' c', e = .returned (.slice A' M.length c') ∧ OwnI w' w.heap.size 3 A' c' M) ∧ Below w.heap.size w w' := by
  have HX := Lib.hid (And.intro hM (And.intro hc1 hne))
  clear hM hc1 hne
  refine (callsIn_wide (n := 8)).1 ?_
  refine callsIn_of_wp_marks Try.func89 rfl trivial ?_ rfl
  simp only [Try.ntmps89, List.size_toArray, List.length_cons, List.length_nil, Nat.reduceAdd, Nat.reduceSub, Array.replicate_succ, Array.replicate_zero, List.push_toArray, List.append_toArray, List.nil_append, List.cons_append]
  refine wpIn_wide.2 ?_
  go_wp2_with (fail)
  refine (wpIn_wide (n := 8)).1 ?_
  obtain ⟨i0, z0, hi0, hz0, hz1, hz2, hz3⟩ := info_open int_info
  have s0 : (w.alloc (.cells #[.slice none 0 0] 25)).heap.size = w.heap.size + 1 := by simp
  have hb0 : Below w.heap.size w (w.alloc (.cells #[.slice none 0 0] 25)) := below_box _ _
  have bO : Boxed (w.alloc (.cells #[.slice none 0 0] 25)) w.heap.size 25 (.slice none 0 0) := Boxed.new w 25 (.slice none 0 0)
  generalize (w.alloc (.cells #[.slice none 0 0] 25)) = W0 at *
  obtain ⟨own0, hown⟩ : ∃ own0 : Ow, ∀ x, own0 x = if x = w.heap.size ∨ (M ≠ [] ∧ A.map (·.block) = some x) ∧ x < w.heap.size then some 0 else none := ⟨fun x => if x = w.heap.size ∨ (M ≠ [] ∧ A.map (·.block) = some x) ∧ x < w.heap.size then some 0 else none, fun _ => rfl⟩
  have HO := Lib.hid hown
  have HB := Lib.hid hb0
  clear hown hb0
  refine rangeZ (I := fun own2 pre V => OutI w.heap.size own2 pre V ∧ (∀ z, own0 z ≠ none → z < w.heap.size → own2 z ≠ none ∧ V.heap[z]? = w.heap[z]?) ∧ w.heap.size ≤ V.heap.size ∧ pre.length ≤ M.length) (Ix := fun _ _ _ _ => False)
    rfl (by omega) (gf := 73) (lb := #[.pointer (some ⟨b1, 0, none⟩)]) rfl trivial (enters_of Try.func73 (by kernel_rfl) rfl)
    (valseq (8 - 1) (by omega) b1 A cap M (by omega)) own0 ?hf0 ?hD ?hR (fun _ => rfl) ?hE ?hI (fun _ _ _ _ _ h _ _ => h) ?h0 ?a1 ?assign ?body ?done ?stop
  case hf0 =>
    intro x hx
    rw [HO.out] at hx
    by_cases e : x = w.heap.size ∨ (M ≠ [] ∧ A.map (·.block) = some x) ∧ x < w.heap.size
    · omega
    · rw [if_neg e] at hx
      exact absurd rfl hx
  case hD =>
    intro V hV
    have h1 : b1 < W0.heap.size := by omega
    exact ⟨by have := hV.size; omega, (hV.cell (p := ⟨b1, 0, none⟩) h1).trans ((HB.out.cell (p := ⟨b1, 0, none⟩) hb1).trans HX.out.2.1)⟩
  case hR =>
    rintro x rfl
    refine ⟨?_, by omega⟩
    rw [HO.out, if_neg]
    rintro (h | ⟨⟨h0, h⟩, _⟩)
    · omega
    · exact HX.out.2.2 h0 _ h rfl
  case hE =>
    rintro own2 pre V ⟨_, h, hs, _⟩
    refine ⟨HX.out.1.1, HX.out.1.2.1, fun q x hx => ?_⟩
    obtain ⟨g, oo, rfl, h2, h3⟩ := HX.out.1.2.2 q x hx
    have h4 := h g (by rw [HO.out, if_pos (.inr ⟨⟨fun e => by rw [e] at hx; simp at hx, rfl⟩, h2⟩)]; simp) h2
    exact ⟨g, oo, rfl, by omega, (World.cell?_of_block (a := ⟨g, _, none⟩) h4.2).trans h3⟩
  case hI =>
    rintro own2 pre V V' ⟨h1, h2, h3, h4⟩ hs hk
    exact ⟨outI_keep h1 hk, fun z hz hzl => ⟨(h2 z hz hzl).1, (hk z (h2 z hz hzl).1 (by omega)).trans (h2 z hz hzl).2⟩, by omega, h4⟩
  case h0 =>
    refine ⟨⟨none, 0, bO, World.ownsRow_nil _ _ _ _, by rw [HO.out, if_pos (.inl rfl)]; simp, fun g hg => by cases hg⟩, fun z hz hzl => ⟨hz, HB.out.block z hzl⟩, by omega, Nat.zero_le _⟩
  case assign =>
    intro l x V K hK
    gi_wp2
    exact hK
  case body =>
    rintro l own2 pre x V ⟨⟨A2, cp, hb, hr, ho, hg⟩, hz, hz4, hpl⟩ hf2 ⟨k, hxk, hxp⟩
    have hbc := hb.cell
    have hbf := hb.frozen
    have hbl := hb.lt
    have hkl := (List.getElem?_eq_some_iff.1 hxk).1
    have hpre : pre.length = k := by rw [hxp, List.length_take]; omega
    have hpl1 : pre.length + 1 ≤ M.length := by omega
    have HE := Lib.hid (And.intro hb (And.intro ho (And.intro hg (And.intro hz hf2))))
    clear hb ho hg hz hf2 hxp hxk hpre hkl
    gi_wp2_with (gi_at_builtin; refine wpListIn_append_own_at _ rfl _ _ 25 rfl w.heap.size 3 i0 z0 1 8 Try.underlying25 hi0 hz0 hz1 hz2 hz3 (by omega) (.slice A2 pre.length cp) pre.length (ci pre) rfl (hr.alloc _) ⟨V.heap.size, 0, none⟩ 1 1 [.int .i64 x] rfl rfl (cell_one_new _ _ _) (by simp [Value.oneCell']) (by unfold maxLen; omega) (by omega) (by simp; omega) ?_
                 intro v' w1 hown' hgrow _ hat
                 obtain ⟨own3, hk3, ho3⟩ := outI_step HE.out.1 hr HE.out.2.1 HE.out.2.2.1 hown' hgrow hat
                 obtain ⟨g', cap', rfl⟩ := ownsRow_succ hown'
                 have hc1 : w1.cell? ⟨w.heap.size, 0, none⟩ = some (.slice A2 pre.length cp) := (HE.out.1.appended (by decide) hr (by omega) (Nat.le_refl _) hown' hgrow).1.cell
                 have hf1 : w1.frozen? ⟨w.heap.size, 0, none⟩ = false := (HE.out.1.appended (by decide) hr (by omega) (Nat.le_refl _) hown' hgrow).1.frozen
                 have H3 := Lib.hid (And.intro hk3 (And.intro ho3 hgrow))
                 clear hk3 ho3 hgrow)
    refine ⟨own3, H3.out.1, H3.out.2.1, fun z hz hzl => ?_, by have := H3.out.1.size; omega, by rw [List.length_append, List.length_singleton]; omega⟩
    · have h2 := HE.out.2.2.2.1 z hz hzl
      have h3 : z < V.heap.size := by omega
      refine ⟨by rw [H3.out.1.same z h3]; exact h2.1, ?_⟩
      rw [setCell_far _ _ _ _ (by show z ≠ w.heap.size; omega), H3.out.2.2.block z (by rw [World.size_alloc]; omega) (fun e => by have := (hr.lt z e.symm).1; omega), alloc_old V _ z h3]
      exact h2.2
  case done =>
    rintro own2 xs V hS ⟨⟨A2, cp, hb, hr, ho, hg⟩, hz, hz4, hpl⟩ hK hd hdv
    subst hS
    have hbc := hb.cell
    have HE := Lib.hid (And.intro hr (And.intro hK (And.intro hdv hz)))
    clear hr hK hdv hb ho hg hz
    go_wp2
    refine ⟨by simp, .inl ⟨_, _, rfl, run_takeDeferred HE.out.2.2.1, ?_⟩⟩
    refine ⟨_, results_tmp rfl _ _ _, ⟨A2, cp, rfl, ownsRow_putObj HE.out.1 _ HE.out.2.2.1 rfl⟩, ?_⟩
    have hK := HE.out.2.1
    have hB := HB.out
    refine ⟨hK.os.trans hB.os, hK.tape.trans hB.tape, hK.output.trans hB.output, ?_, fun x hx => ?_⟩
    · have := hK.size; have := hB.size; simp; omega
    · have := hB.size
      rw [World.putObj_heap_other (by omega)]
      by_cases hox : own0 x = none
      · rw [hK.block x (by omega) hox]
        exact hB.block x hx
      · exact (HE.out.2.2.2 x hox hx).2
  case stop =>
    rintro _ _ _ _ _ h
    exact h.elim
end Of
end Go.Proofs.Ytjgakcpjphdicaa
