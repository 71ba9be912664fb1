/- Below, and the statements' below. -/
import Derived.Test.YtllmddhahpegmaaAE
import Derived.Maps.OwnIn
namespace Go.Proofs.Ytllmddhahpegmaa
open Go.RowKit Go.Shelf
namespace Ne
attribute [local go_sem] Oper.semAt_some

theorem below44_ok (w : World) (t : Nat) (k : Int) :
    Calls Try.prog 44 #[.pointer (some ⟨t, 0, none⟩), .int .i64 k] w fun e w' => e = .returned (.func (.func 55) #[] #[.pointer (some ⟨w.heap.size, 0, none⟩), .pointer (some ⟨w.heap.size + 1, 0, none⟩)]) ∧
      w' = (w.alloc (.cells #[.pointer (some ⟨t, 0, none⟩)] 23)).alloc (.cells #[.int .i64 k] 3) := by
  go_enter Try.func44, Try.ntmps44
  go_wp2
  go_ret
  exact ⟨rfl, rfl⟩

/-- The caller's variable, and its row. -/
def Out (bo : Nat) (own : Ow) (pre : List Nat) (V : World) : Prop :=
  ∃ A c, Boxed V bo 36 (.slice A pre.length c) ∧ V.ownsRow bo 3 1 (.slice A pre.length c) pre.length (nints pre) ∧ own bo ≠ none ∧ ∀ g, (Value.slice A pre.length c).ownBlock = some g → own g ≠ none

theorem out_framed (bo : Nat) : Framed (Out bo) := by
  rintro own pre V V' ⟨A, c, hb, hr, ho, hg⟩ hs hk
  refine ⟨A, c, (hk _ ho hb.lt).trans hb, ⟨hr.1, ?_⟩, ho, hg⟩
  rcases hr.2 with hn | ⟨g, cap, cur, e, hB, hgg, rest⟩
  · exact .inl hn
  · exact .inr ⟨g, cap, cur, e, hB, by rw [hk g (hg g (by rw [e]; rfl)) (lt_of_heap hgg)]; exact hgg, rest⟩

theorem out_step {bo : Nat} {own : Ow} {pre : List Nat} {V w1 : World} {x : Nat} {A : Option Addr} {c : Nat} {ob : Obj} {v' : Value}
    (hb : Boxed V bo 36 (.slice A pre.length c)) (hr : V.ownsRow bo 3 1 (.slice A pre.length c) pre.length (nints pre)) (ho : own bo ≠ none) (hg : ∀ g, (Value.slice A pre.length c).ownBlock = some g → own g ≠ none)
    (hown : w1.ownsRow bo 3 1 v' (pre.length + 1) (nints pre ++ [.int .i64 (x : Int)])) (hgrow : (V.alloc ob).grownBy w1 (Value.slice A pre.length c).ownBlock)
    (hat : v'.ownBlock = (Value.slice A pre.length c).ownBlock ∨ v'.ownBlock = some (V.alloc ob).heap.size) :
    ∃ own', Keeps own own' V (w1.setCell ⟨bo, 0, none⟩ v') ∧ Out bo own' (pre ++ [x]) (w1.setCell ⟨bo, 0, none⟩ v') := by
  have hbl := hb.lt
  obtain ⟨h1, h2, h3, _, h5⟩ := hb.appended (by decide) hr (Nat.le_of_lt hbl) (Nat.le_refl bo) hown hgrow
  obtain ⟨gg, cap, rfl⟩ := ownsRow_succ hown
  have hgs := hgrow.size
  simp at hgs
  refine ⟨fun y => if V.heap.size ≤ y ∧ y = gg then some 0 else own y, ⟨h5.os, h5.tape, h5.output, ?_, fun y hy hn => ?_, fun y hy => ?_, fun y hy => ?_⟩, some ⟨gg, 0, none⟩, cap, by simpa using h2, ?_, ?_, fun g hg' => ?_⟩
  · rw [setCell_size]; omega
  · rw [setCell_far _ _ _ _ (fun e => by rw [e] at hn; exact ho hn), hgrow.block y (by simp; omega) (fun e => hg y e.symm hn)]
    exact Below.heap_alloc _ _ _ hy
  · show (if V.heap.size ≤ y ∧ y = gg then some 0 else own y) = own y
    rw [if_neg (by omega)]
  · by_cases e : V.heap.size ≤ y ∧ y = gg
    · right
      refine ⟨e.1, ?_⟩
      rw [setCell_size, e.2]
      exact (hown.lt gg rfl).2
    · left
      rwa [if_neg e] at hy
  · have : nints (pre ++ [x]) = nints pre ++ [.int .i64 (x : Int)] := by simp [nints]
    rw [this]; simpa using h3
  · show (if V.heap.size ≤ bo ∧ bo = gg then some 0 else own bo) ≠ none
    rw [if_neg (by omega)]; exact ho
  · obtain rfl : gg = g := by simpa [Value.ownBlock] using hg'
    show (if V.heap.size ≤ gg ∧ gg = gg then some 0 else own gg) ≠ none
    by_cases e : V.heap.size ≤ gg
    · rw [if_pos ⟨e, rfl⟩]; simp
    · rw [if_neg (by omega)]
      rcases hat with hat | hat
      · exact hg gg hat.symm
      · simp [Value.ownBlock] at hat; omega

set_option maxRecDepth 100000 in
set_option maxHeartbeats 2000000 in
theorem below_ok (w : World) (own : Ow) (t : Nat) (M : Tr) (k : Int) (h : Tree w own t M) (hfo : Fresh own w) (hgood : Good M) :
    Calls Try.prog 24 #[.pointer (some ⟨t, 0, none⟩), .int .i64 k] w fun e w' => (∃ A c l, e = .returned (.slice A l.length c) ∧ Under M k M.length l ∧ w'.ownsRow w.heap.size 3 1 (.slice A l.length c) l.length (nints l)) ∧ Below w.heap.size w w' := by
  refine (callsIn_wide (n := 8)).1 ?_
  refine callsIn_of_wp_marks Try.func24 rfl trivial ?_ rfl
  simp only [Try.ntmps24, List.size_toArray, List.length_cons, List.length_nil, Nat.reduceAdd, Nat.reduceSub, Array.replicate_succ, Array.replicate_zero, List.push_toArray, List.append_toArray, List.nil_append, List.cons_append]
  refine wpIn_wide.2 ?_
  go_wp2_with (go_at_call 44; refine (below44_ok _ _ _).mono ?_; rintro e w' ⟨rfl, rfl⟩)
  refine (wpIn_wide (n := 8)).1 ?_
  obtain ⟨i0, z0, hi0, hz0, hz1, hz2, hz3⟩ := info_open int_info
  have hm := hgood.len
  have c0 : ((((w.alloc (.cells #[.slice none 0 0] 36)).alloc (.cells #[.pointer (some ⟨t, 0, none⟩)] 23)).alloc (.cells #[.int .i64 k] 3))).heap.size = w.heap.size + 3 := by simp
  have hb0 : Below w.heap.size w (((w.alloc (.cells #[.slice none 0 0] 36)).alloc (.cells #[.pointer (some ⟨t, 0, none⟩)] 23)).alloc (.cells #[.int .i64 k] 3)) := (((Below.refl _ _).alloc (Nat.le_refl _) _).alloc (by simp) _).alloc (by simp; omega) _
  have bO : Boxed (((w.alloc (.cells #[.slice none 0 0] 36)).alloc (.cells #[.pointer (some ⟨t, 0, none⟩)] 23)).alloc (.cells #[.int .i64 k] 3)) w.heap.size 36 (.slice none 0 0) := ((Boxed.new w 36 (.slice none 0 0)).alloc _).alloc _
  have b1 : (((w.alloc (.cells #[.slice none 0 0] 36)).alloc (.cells #[.pointer (some ⟨t, 0, none⟩)] 23)).alloc (.cells #[.int .i64 k] 3)).cell? ⟨w.heap.size + 1, 0, none⟩ = some (.pointer (some ⟨t, 0, none⟩)) := by
    have := ((Boxed.new (w.alloc (.cells #[.slice none 0 0] 36)) 23 (.pointer (some ⟨t, 0, none⟩))).alloc (.cells #[.int .i64 k] 3)).cell
    simpa using this
  have b2 : (((w.alloc (.cells #[.slice none 0 0] 36)).alloc (.cells #[.pointer (some ⟨t, 0, none⟩)] 23)).alloc (.cells #[.int .i64 k] 3)).cell? ⟨w.heap.size + 1 + 1, 0, none⟩ = some (.int .i64 k) := by
    have := (Boxed.new ((w.alloc (.cells #[.slice none 0 0] 36)).alloc (.cells #[.pointer (some ⟨t, 0, none⟩)] 23)) 3 (.int .i64 k)).cell
    simpa using this
  generalize (((w.alloc (.cells #[.slice none 0 0] 36)).alloc (.cells #[.pointer (some ⟨t, 0, none⟩)] 23)).alloc (.cells #[.int .i64 k] 3)) = W0 at *
  have H := Lib.hid (And.intro h (And.intro hfo (And.intro hgood hb0)))
  clear h hfo hgood hb0
  refine rangeY (Ix := fun _ _ _ _ => False) (I := Out w.heap.size) rfl (by omega) (gf := 55) (lb := #[.pointer (some ⟨w.heap.size + 1, 0, none⟩), .pointer (some ⟨w.heap.size + 1 + 1, 0, none⟩)]) rfl trivial (enters_of Try.func55 (by kernel_rfl) rfl)
    (belowseq 7 (by omega) (w.heap.size + 1) (w.heap.size + 1 + 1) t M own k H.out.2.2.1) (fun x => if x = w.heap.size then some 0 else none) ?hf0 ?hD ?hR (fun _ => rfl) (out_framed _) (fun _ _ _ _ _ h _ _ => h) ?h0 ?a1 ?assign ?body ?done ?stop
  case hf0 =>
    intro x hx
    by_cases e : x = w.heap.size
    · omega
    · simp [e] at hx
  case hD =>
    intro V hV
    exact ⟨(H.out.1.below (H.out.2.2.2.trans (hV.mono H.out.2.2.2.size))), by have := hV.size; omega, by have := hV.size; omega, (hV.cell (p := ⟨w.heap.size + 1, 0, none⟩) (show w.heap.size + 1 < W0.heap.size by omega)).trans b1, (hV.cell (p := ⟨w.heap.size + 1 + 1, 0, none⟩) (show w.heap.size + 1 + 1 < W0.heap.size by omega)).trans b2⟩
  case hR =>
    intro x hx
    rcases hx with hx | rfl | rfl
    · have := H.out.2.1 x hx
      exact ⟨by simp; omega, by omega⟩
    · exact ⟨by simp, by omega⟩
    · exact ⟨by simp; omega, by omega⟩
  case h0 => exact ⟨none, 0, bO, World.ownsRow_nil _ _ _ _, by simp, fun g hg => by cases hg⟩
  case assign =>
    intro l x V K hK
    gi_wp2
    exact hK
  case body =>
    rintro l own2 pre x V ⟨A, c, hb, hr, ho, hg⟩ hf2 hlen
    have hbc := hb.cell
    have hbf := hb.frozen
    have hbl := hb.lt
    have HE := Lib.hid (And.intro hb (And.intro ho hg))
    clear hb ho hg
    gi_wp2_with (gi_at_builtin; refine wpListIn_append_own_at _ rfl _ _ 36 rfl w.heap.size 3 i0 z0 1 8 Try.underlying36 hi0 hz0 hz1 hz2 hz3 (by omega) (.slice A pre.length c) pre.length (nints pre) rfl (hr.alloc _) ⟨V.heap.size, 0, none⟩ 1 1 [.int .i64 (x : Int)] rfl rfl (cell_one_new _ _ _) (by simp [Value.oneCell']) (by unfold maxLen; omega) (by omega) (by simp; omega) ?_
                 intro v' w1 hown' hgrow _ hat
                 obtain ⟨own3, hk3, ho3⟩ := out_step HE.out.1 hr HE.out.2.1 HE.out.2.2 hown' hgrow hat
                 obtain ⟨g', cap', rfl⟩ := ownsRow_succ hown'
                 have hc1 : w1.cell? ⟨w.heap.size, 0, none⟩ = some (.slice A pre.length c) := (HE.out.1.appended (by decide) hr (by omega) (Nat.le_refl _) hown' hgrow).1.cell
                 have hf1 : w1.frozen? ⟨w.heap.size, 0, none⟩ = false := (HE.out.1.appended (by decide) hr (by omega) (Nat.le_refl _) hown' hgrow).1.frozen
                 have H3 := Lib.hid (And.intro hk3 ho3)
                 clear hk3 ho3)
    exact ⟨own3, H3.out.1, H3.out.2⟩
  case done =>
    rintro own2 xs V hS ⟨A, c, hb, hr, ho, hg⟩ hK hd hdv
    have hbc := hb.cell
    have HE := Lib.hid (And.intro hS (And.intro hr (And.intro hK hdv)))
    have hbW := Lib.hid H.out.2.2.2
    clear hS hr hK hdv hb ho hg
    go_wp2
    refine ⟨by simp, .inl ⟨_, _, rfl, run_takeDeferred HE.out.2.2.2, ?_⟩⟩
    refine ⟨_, results_tmp rfl _ _ _, ⟨A, c, xs, rfl, HE.out.1, ownsRow_putObj HE.out.2.1 _ HE.out.2.2.2 rfl⟩, ?_⟩
    have hK := HE.out.2.2.1
    have hB := hbW.out
    refine ⟨hK.os.trans hB.os, hK.tape.trans hB.tape, hK.output.trans hB.output, ?_, fun x hx => ?_⟩
    · have := hK.size; have := hB.size; simp; omega
    · have := hB.size
      rw [World.putObj_heap_other (by omega), hK.block x (by omega) (by simp; omega)]
      exact hB.block x hx
  case stop =>
    rintro _ _ _ _ _ h
    exact h.elim
end Ne
end Go.Proofs.Ytllmddhahpegmaa
