/- Best, where it searches. Best, whole. -/
import Derived.Test.YtjgakcpjphdicaaK34
import Derived.Test.YtjgakcpjphdicaaK13
namespace Go.Proofs.Ytjgakcpjphdicaa
open Go.RowKit Go.Shelf
namespace Of
attribute [local go_sem] Oper.semAt_some

theorem two_new (w : World) (a b : Obj) : Below w.heap.size w ((w.alloc a).alloc b) ∧ ((w.alloc a).alloc b).heap[w.heap.size]? = some a ∧ ((w.alloc a).alloc b).heap[w.heap.size + 1]? = some b ∧ ((w.alloc a).alloc b).heap.size = w.heap.size + 2 := by
  refine ⟨(below_box w a).alloc (by simp) b, ?_, ?_, by simp⟩
  · rw [heapAlloc, if_neg (by simp), heapAlloc, if_pos rfl]
  · rw [heapAlloc, if_pos (by simp)]
/-- The order that the loop has. -/
abbrev ordB (pre : List BI) : List Nat := (stB pre).1.getD []
/-- What the loop keeps. -/
structure BestI (bo tl : Nat) (pk : Int) (own : Ow) (pre : List BI) (V : World) : Prop where
  bound : V.heap[tl + 1]? = some (.cells #[.int .i64 (stB pre).2] 2 (0, 0))
  least : V.heap[tl]? = some (.cells #[.int .i64 pk] 2 (0, 0))
  ord : ∃ A c, V.heap[bo]? = some (.cells #[.slice A (ordB pre).length c] 25 (0, 0)) ∧ V.ownsRow 0 3 1 (.slice A (ordB pre).length c) (ordB pre).length (ci (zsP (ordB pre))) ∧ ∀ g, A.map (·.block) = some g → own g ≠ none
  oN : own bo ≠ none ∧ own tl ≠ none ∧ own (tl + 1) ≠ none
theorem BestI.framed (bo tl : Nat) (pk : Int) : Framed (BestI bo tl pk) := by
  rintro own pre W W' ⟨h1, h2, ⟨A, c, h3, h4, h5⟩, h6⟩ hs hk
  refine ⟨(hk _ h6.2.2 (lt_of_heap h1)).trans h1, (hk _ h6.2.1 (lt_of_heap h2)).trans h2, ⟨A, c, (hk _ h6.1 (lt_of_heap h3)).trans h3, row_same h4 fun g hg => ?_, h5⟩, h6⟩
  exact hk g (h5 g (by cases A with | none => cases hg | some a => exact hg)) (h4.lt g hg).2
theorem BestI.next {bo tl : Nat} {pk : Int} {own : Ow} {pre : List BI} {V V1 : World} {a A' : Option Addr} {xc c' : Nat} {o : List Nat} {T : Int} (hI : BestI bo tl pk own pre V) (h12 : bo ≠ tl + 1) (h13 : tl ≠ bo)
    (hr : OwnI V1 V.heap.size 3 A' c' (zsP o)) (hb : Below V.heap.size V V1) :
    ∃ own', Keeps own own' V ((V1.setCell ⟨bo, 0, none⟩ (.slice A' o.length c')).setCell ⟨tl + 1, 0, none⟩ (.int .i64 T)) ∧ BestI bo tl pk own' (pre ++ [((a, xc), o, T)]) ((V1.setCell ⟨bo, 0, none⟩ (.slice A' o.length c')).setCell ⟨tl + 1, 0, none⟩ (.int .i64 T)) := by
  obtain ⟨h1, h2, ⟨A, c, h3, h4, h5⟩, o1, o2, o3⟩ := hI
  have hl : (zsP o).length = o.length := List.length_map _
  have hg : ∀ g, A'.map (·.block) = some g → V.heap.size ≤ g ∧ g < V1.heap.size := fun g hg => (OwnI.at hr).2 g hg
  unfold OwnI at hr
  rw [hl] at hr
  have l1 := lt_of_heap h1
  have l2 := lt_of_heap h2
  have l3 := lt_of_heap h3
  have hbs := hb.size
  have e1 : stB (pre ++ [((a, xc), o, T)]) = (some o, T) := stB_snoc _ _
  have e2 : ordB (pre ++ [((a, xc), o, T)]) = o := by unfold ordB; rw [e1]; rfl
  have k3 := setCell_at V1 bo 0 _ _ (.slice A' o.length c') ((hb.block bo l3).trans h3)
  have k1 := setCell_at (V1.setCell ⟨bo, 0, none⟩ (.slice A' o.length c')) (tl + 1) 0 _ _ (.int .i64 T) ((setCell_far _ _ _ _ (fun e => h12 e.symm)).trans ((hb.block (tl + 1) l1).trans h1))
  have hsz : ((V1.setCell ⟨bo, 0, none⟩ (.slice A' o.length c')).setCell ⟨tl + 1, 0, none⟩ (.int .i64 T)).heap.size = V1.heap.size := by rw [setCell_size, setCell_size]
  have hfar : ∀ k, k ≠ bo → k ≠ tl + 1 → ((V1.setCell ⟨bo, 0, none⟩ (.slice A' o.length c')).setCell ⟨tl + 1, 0, none⟩ (.int .i64 T)).heap[k]? = V1.heap[k]? := fun k q1 q2 => (setCell_far _ _ _ _ q2).trans (setCell_far _ _ _ _ q1)
  refine ⟨fun k => if A'.map (·.block) = some k then some 0 else own k, ⟨hb.os, hb.tape, hb.output, by rw [hsz]; exact hbs, fun k hk hn => ?_, fun k hk => ?_, fun k hk => ?_⟩, ⟨?_, ?_, ⟨A', c', ?_, ?_, fun g hg' => ?_⟩, ?_, ?_, ?_⟩⟩
  · rw [hfar k (fun e => o1 (by rw [← e]; exact hn)) (fun e => o3 (by rw [← e]; exact hn))]
    exact hb.block k hk
  · show (if _ then some 0 else own k) = own k
    rw [if_neg (fun e => by have := hg k e; omega)]
  · by_cases e : A'.map (·.block) = some k
    · right; rw [hsz]; exact hg k e
    · left
      have hk' : (if A'.map (·.block) = some k then some 0 else own k) ≠ none := hk
      rwa [if_neg e] at hk'
  · rw [k1, e1]; rfl
  · rw [hfar tl h13 (by omega)]; exact (hb.block tl l2).trans h2
  · rw [setCell_far _ _ _ _ (show bo ≠ tl + 1 from h12), k3, e2]; rfl
  · rw [e2]
    refine row_same (row_low hr (Nat.zero_le _)) fun g hg' => ?_
    have := (hr.lt g hg').1
    exact hfar g (by omega) (by omega)
  · show (if _ then some 0 else own g) ≠ none
    rw [if_pos hg']; simp
  · show (if _ then some 0 else own bo) ≠ none
    split <;> simp_all
  · show (if _ then some 0 else own tl) ≠ none
    split <;> simp_all
  · show (if _ then some 0 else own (tl + 1)) ≠ none
    split <;> simp_all
theorem AtB.put {L : List OB} (pre : List BI) (x : BI) (W : World) (r : Nat) (l : Loop) (o : Obj) (hr : W.heap[r]? = some (.loop l)) (h : AtB L pre x W) : AtB L pre x (W.putObj r o) := by
  refine ⟨⟨h.1.1, h.1.2.1, fun j y hy => ?_⟩, h.2⟩
  obtain ⟨g, oo, e, hg, hc⟩ := h.1.2.2 j y hy
  have hne : g ≠ r := fun e2 => by
    rw [e2] at hc
    simp [World.cell?, hr] at hc
  exact ⟨g, oo, e, by simpa using hg, (World.cell?_of_block (a := ⟨g, _, none⟩) (World.putObj_heap_other hne)).trans hc⟩
theorem iat_far {V V' : World} {A : Option Addr} {c : Nat} {M : List Int} (h : IAt V A c M) {r1 r2 : Nat} {T : TypeId} {sA : Option Addr} {sn sc : Nat} (h1 : V.heap[r1]? = some (.cells #[.slice sA sn sc] T (0, 0))) (h2 : V.heap[r2]? = some (.deferred (some [])))
    (hs : V.heap.size ≤ V'.heap.size) (hk : ∀ k, k < V.heap.size → k ≠ r1 → k ≠ r2 → V'.heap[k]? = V.heap[k]?) : IAt V' A c M := by
  refine ⟨h.1, h.2.1, fun j x hx => ?_⟩
  obtain ⟨g, o, e, hg, hc⟩ := h.2.2 j x hx
  refine ⟨g, o, e, by omega, (World.cell?_of_block (a := ⟨g, _, none⟩) (hk g hg (fun e2 => ?_) (fun e2 => ?_))).trans hc⟩
  · rw [e2, cell_of_row _ _ _ _ _ _ h1] at hc
    by_cases e3 : o + j = 0
    · rw [e3] at hc; simp at hc
    · rw [Array.getElem?_eq_none (by simp; omega)] at hc; cases hc
  · rw [e2] at hc
    simp [World.cell?, h2] at hc
set_option maxRecDepth 100000 in
set_option maxHeartbeats 4000000 in
theorem best_yes (w : World) (lA : Option Addr) (lc : Nat) (L : List OB) (hl : OBAt w lA lc L) (hv : checkV L = 0) (h8 : L.length ≤ 8) :
    Calls Try.prog 12 #[.slice lA L.length lc] w fun e w' => ∃ (ga : Nat) (A : Option Addr) (c : Nat), e = .returned (.tuple #[.slice (some ⟨ga, 0, none⟩) L.length L.length, .slice A L.length c, .int .i64 (topOf L (bestV L)), .int .i64 0]) ∧ RowI 2 w' ga (lays L (bestV L)).A ∧ IAt w' A c (zsP (bestV L)) ∧ Below w.heap.size w w' := by
  have hcap := hl.2.1
  have hlc := hl.1
  unfold maxLen at hcap
  have hL := (checkV_ok L).1 hv
  have hb0 : Below w.heap.size w (w.alloc (.cells #[.slice none 0 0] 25)) := below_box _ _
  have hl0 := hl.below hb0 (Nat.le_refl _)
  have hck := check_ok lA lc L _ hl0
  rw [hv] at hck
  have hs0 : (w.alloc (.cells #[.slice none 0 0] 25)).heap.size = w.heap.size + 1 := by simp
  have hh0 : (w.alloc (.cells #[.slice none 0 0] 25)).heap[w.heap.size]? = some (.cells #[.slice none 0 0] 25 (0, 0)) := by rw [heapAlloc, if_pos rfl]
  have hpk := peak_bd hv
  have HC := Lib.hid hck
  have H0 := Lib.hid (And.intro hb0 (And.intro hs0 (And.intro hh0 hl0)))
  have HX := Lib.hid (And.intro hl hL)
  clear hl hb0 hck hs0 hh0 hl0 hL
  refine (callsIn_wide (n := 8)).1 ?_
  refine callsIn_of_wp_marks Try.func12 rfl trivial ?_ rfl
  simp only [Try.ntmps12, List.size_toArray, List.length_cons, List.length_nil, Nat.reduceAdd, Nat.reduceSub, Array.replicate_succ, Array.replicate_zero, List.push_toArray, List.append_toArray, List.nil_append, List.cons_append]
  refine wpIn_wide.2 ?_
  go_upto_region 1 with (fail)
  generalize w.alloc (.cells #[.slice none 0 0] 25) = W0 at *
  obtain ⟨bo, hbo⟩ : ∃ z, z = w.heap.size := ⟨_, rfl⟩
  rw [← hbo] at H0 ⊢
  have HBO := Lib.hid hbo
  clear hbo
  go_upto_region 6 with (go_at_call 27; refine HC.out.mono ?_; rintro e w1 ⟨rfl, hb1⟩; have HB1 := Lib.hid hb1; clear hb1)
  have hpc := Peak_ok lA lc L w1 (H0.out.2.2.2.below HB1.out (Nat.le_refl _))
  have hp2 : (peakRes L).2.2 = 0 := by unfold peakRes; rw [hv, if_neg (by simp)]
  rw [hp2] at hpc
  generalize hpk1 : (peakRes L).1 = pk at *
  generalize (peakRes L).2.1 = pt at *
  have HP := Lib.hid hpc
  have HPK := Lib.hid (And.intro hpk1 hpk)
  clear hpc hp2 hpk1 hpk
  go_upto_region 8 with (go_at_call 21; refine HP.out.mono ?_; rintro e w2 ⟨rfl, hb2⟩; have HB2 := Lib.hid hb2; clear hb2)
  have h4 := two_new w2 (.cells #[.int .i64 pk] 2) (.cells #[.int .i64 4611686018427387904] 2)
  generalize ((w2.alloc (.cells #[.int .i64 pk] 2)).alloc (.cells #[.int .i64 4611686018427387904] 2)) = W4 at *
  obtain ⟨tl, htl⟩ : ∃ z, z = w2.heap.size := ⟨_, rfl⟩
  rw [← htl] at h4 ⊢
  have H4 := Lib.hid (And.intro htl h4)
  clear htl h4
  have hor := orders_ok W4 lA lc L.length (tl + 1)
  rw [H4.out.2.2.2.2] at hor
  have h6 := two_new W4 (.cells #[.slice lA L.length lc] 22) (.cells #[.pointer (some ⟨tl + 1, 0, none⟩)] 55)
  rw [H4.out.2.2.2.2] at h6
  have H6 := Lib.hid h6
  have HOR := Lib.hid hor
  clear h6 hor
  go_wp2_with (go_at_call 33; refine HOR.out.mono ?_; rintro e w6 ⟨rfl, hw6⟩; rw [← hw6] at H6; clear hw6)
  refine (wpIn_wide (n := 8)).1 ?_
  have hs0 := H0.out.2.1
  have hs1 := HB1.out.size
  have hs2 := HB2.out.size
  have hs4 := H4.out.2.2.2.2
  have hs6 := H6.out.2.2.2
  have htl := H4.out.1
  have b06 : Below W0.heap.size W0 w6 := HB1.out.trans ((HB2.out.trans ((H4.out.2.1.mono (by omega)).trans (H6.out.1.mono (by omega)))).mono hs1)
  have q1 : w6.heap[bo]? = some (.cells #[.slice none 0 0] 25 (0, 0)) := (b06.block bo (by omega)).trans H0.out.2.2.1
  have q2 : w6.heap[tl]? = some (.cells #[.int .i64 pk] 2 (0, 0)) := (H6.out.1.block tl (by omega)).trans H4.out.2.2.1
  have q3 : w6.heap[tl + 1]? = some (.cells #[.int .i64 4611686018427387904] 2 (0, 0)) := (H6.out.1.block (tl + 1) (by omega)).trans H4.out.2.2.2.1
  have q4 := H6.out.2.1
  have q5 := H6.out.2.2.1
  have bw6 : Below w.heap.size w w6 := by rw [← HBO.out]; exact H0.out.1.trans (b06.mono (by omega))
  have hl6 := HX.out.1.below bw6 (Nat.le_refl _)
  obtain ⟨own0, hown⟩ : ∃ own0 : Ow, ∀ x, own0 x = if x = bo ∨ x = tl ∨ x = tl + 1 then some 0 else none := ⟨fun x => if x = bo ∨ x = tl ∨ x = tl + 1 then some 0 else none, fun _ => rfl⟩
  have HW6 := Lib.hid (And.intro q1 (And.intro q2 (And.intro q3 (And.intro q4 (And.intro q5 (And.intro bw6 (And.intro hl6 (And.intro hown (And.intro hs6 (by omega : bo + 1 ≤ tl))))))))))
  clear hs0 hs1 hs2 hs4 hs6 htl b06 q1 q2 q3 q4 q5 bw6 hl6 hown
  refine rangeB (I := BestI bo tl pk) (Ix := fun c own pre V => c = .exit 0 ∧ BestI bo tl pk own pre V ∧ (stB pre).2 = pk)
    rfl (by omega) (gf := 59) (lb := #[.pointer (some ⟨tl + 2, 0, none⟩), .pointer (some ⟨tl + 2 + 1, 0, none⟩)]) rfl trivial (enters_of Try.func59 (by kernel_rfl) rfl)
    (ordseq (8 - 1) (by omega) (tl + 2) (tl + 2 + 1) (tl + 1) lA lc L HX.out.2) own0 ?hf0 ?hD ?hR (fun _ => rfl) ?hE AtB.put (BestI.framed bo tl pk) ?hIx ?h0 ?a1 ?assign ?body ?done ?stop
  case hf0 =>
    intro x hx
    rw [HW6.out.2.2.2.2.2.2.2.1] at hx
    have := HW6.out.2.2.2.2.2.2.2.2
    by_cases e : x = bo ∨ x = tl ∨ x = tl + 1
    · omega
    · rw [if_neg e] at hx; exact absurd rfl hx
  case hD =>
    intro V hV
    obtain ⟨q1, q2, q3, q4, q5, q6, q7, _⟩ := HW6.out
    exact ⟨cell_keep hV (one_cell q4).1, cell_keep hV (one_cell q5).1, q7.below hV (Nat.le_refl _)⟩
  case hR =>
    have h9 := HW6.out.2.2.2.2.2.2.2.2
    rintro x (rfl | rfl | ⟨hp, hg⟩)
    · exact ⟨by rw [HW6.out.2.2.2.2.2.2.2.1, if_neg (by omega)], by omega⟩
    · exact ⟨by rw [HW6.out.2.2.2.2.2.2.2.1, if_neg (by omega)], by omega⟩
    · obtain ⟨g', o', hA, hg'⟩ := HX.out.1.head hp
      have e : g' = x := by rw [hA] at hg; injection hg
      have := HBO.out
      exact ⟨by rw [HW6.out.2.2.2.2.2.2.2.1, if_neg (by omega)], by omega⟩
  case hE => exact fun own pre V h => (one_cell h.bound).1
  case hIx =>
    rintro c own pre V V' ⟨h1, h2, h3⟩ hs hk
    exact ⟨h1, BestI.framed bo tl pk own pre V V' h2 hs hk, h3⟩
  case h0 =>
    obtain ⟨q1, q2, q3, q4, q5, q6, q7, q8, _⟩ := HW6.out
    exact ⟨q3, q2, ⟨none, 0, q1, ⟨rfl, .inl ⟨rfl, rfl⟩⟩, fun g hg => by cases hg⟩, by rw [q8, if_pos (by omega)]; simp, by rw [q8, if_pos (by omega)]; simp, by rw [q8, if_pos (by omega)]; simp⟩
  case assign =>
    intro l x V K hK
    gi_wp2
    exact hK
  case body =>
    intro l own pre x V hI hF hA
    obtain ⟨h1, h2, h3, h4, g, hg⟩ := hA
    obtain ⟨⟨xA, xc⟩, o, T⟩ := x
    dsimp only at h1 h2 h3 h4 hg
    subst hg
    have hcl := clone_ok V g xc o h1 (by omega)
    obtain ⟨A, c, hob, hrow, hgo⟩ := hI.ord
    obtain ⟨bo1, bo2⟩ := one_cell hob
    obtain ⟨bb1, bb2⟩ := one_cell hI.bound
    obtain ⟨tl1, tl2⟩ := one_cell hI.least
    have HCL := Lib.hid hcl
    have HI := Lib.hid (And.intro hI (And.intro hF (And.intro h3 h4)))
    have hne1 : bo ≠ tl + 1 := by have := HW6.out.2.2.2.2.2.2.2.2; omega
    have hne2 : tl ≠ bo := by have := HW6.out.2.2.2.2.2.2.2.2; omega
    have hol : o.length ≤ 8 := by omega
    clear hcl hob hrow hgo hI hF h1 h2 h3 h4
    gi_wp2
    refine ⟨trivial, CallsIn.mono (CallsIn.inRound l (callsIn_wide.2 HCL.out)) ?_⟩
    rintro e V1 ⟨A', c', rfl, hr1, hb1⟩
    obtain ⟨bo3, bo4⟩ := cell_of_below (w := w) hb1 ⟨bo1, bo2⟩
    obtain ⟨bb3, bb4⟩ := cell_of_below (w := w) hb1 ⟨bb1, bb2⟩
    obtain ⟨tl3, tl4⟩ := cell_of_below (w := w) hb1 ⟨tl1, tl2⟩
    have H1 := Lib.hid (And.intro hr1 hb1)
    clear hr1 hb1 bo1 bo2 bb1 bb2 tl1 tl2
    obtain ⟨own', hk', hi'⟩ := HI.out.1.next (a := some ⟨g, 0, none⟩) (xc := xc) (T := T) hne1 hne2 H1.out.1 H1.out.2
    have H2 := Lib.hid (And.intro hk' hi')
    clear hk' hi'
    by_cases hT : T = pk
    · have hq : (T == pk) = true := by rw [hT]; exact beq_self_eq_true _
      have HT := Lib.hid hT
      clear hT
      gi_wp2
      exact ⟨own', H2.out.1, rfl, H2.out.2, by rw [stB_snoc]; exact HT.out⟩
    · have hq : (T == pk) = false := by simpa using hT
      gi_wp2
      exact ⟨own', H2.out.1, H2.out.2⟩
  case' done =>
    rintro own2 xs V hS hI hK hd hdv
    have hbest := hS.best
    clear hS
  case' stop =>
    rintro own2 c xs V hS ⟨rfl, hI, hpk⟩ hK hd hdv
    have hbest := hS.best fun p hp => by
      rw [hpk, ← HPK.out.1]
      obtain ⟨h1, h2⟩ := allF_ord L.length [] ⟨List.nodup_nil, fun i hi => by cases hi⟩ (by simp) p hp
      exact peak_top hv h1 h2
    clear hS hpk
  all_goals
    obtain ⟨A, c, hob, hrow, hgo⟩ := hI.ord
    have he : ordB xs = bestV L := by unfold ordB; rw [hbest]; rfl
    rw [he] at hob hrow
    obtain ⟨hs1, hs2, hs3, hs4⟩ := bestV_spec L
    have hlV : OBAt V lA lc L := obat_kz (X := fun _ => False) (Kz.of_keeps hK) HW6.out.2.2.2.2.2.2.1 fun hp g hg => by
      obtain ⟨g', o', hA, hg'⟩ := HX.out.1.head hp
      have e : g' = g := by rw [hA] at hg; injection hg
      have := HBO.out
      have := HW6.out.2.2.2.2.2.2.2.2
      exact ⟨by rw [HW6.out.2.2.2.2.2.2.2.1, if_neg (by omega)], fun h => h⟩
    have hoV : IAt V A c (zsP (bestV L)) := by
      have e : (zsP (bestV L)).length = (bestV L).length := List.length_map _
      have h1 : OwnI V 0 3 A c (zsP (bestV L)) := by unfold OwnI; rw [e]; exact hrow
      exact h1.at.1
    have hly := lay_ok V lA lc L A c (bestV L) hlV hoV HX.out.2 hs2
    rw [hs3] at hly hob
    obtain ⟨bo1, bo2⟩ := one_cell hob
    have HL := Lib.hid hly
    have HV := Lib.hid (And.intro hob (And.intro hoV (And.intro hK (And.intro hd hdv))))
    clear hly hoV hlV hs1 hs2 hs3 hs4 hrow hgo he hI hK hdv hd hob hbest
    try refine wpIn_wide.2 ?_
    go_upto_region 14 with (go_at_call 35; refine HL.out.mono ?_; rintro e V2 ⟨ga, rfl, hg1, hg2, hg3⟩; obtain ⟨bo3, bo4⟩ := cell_of_below (w := w) hg3 ⟨bo1, bo2⟩; have H2 := Lib.hid (And.intro hg1 (And.intro hg2 hg3)); clear hg1 hg2 hg3 bo1 bo2)
    go_region
    have z1 := HV.out.1
    have z2 := HV.out.2.2.2.2
    have z3 := HW6.out.2.2.2.2.2.2.2.2
    have hneq : w6.heap.size ≠ bo := by omega
    have hdef : (V2.setCell ⟨bo, 0, none⟩ (.slice A L.length c)).drew.heap[w6.heap.size]? = some (.deferred (some [])) := (setCell_far V2 ⟨bo, 0, none⟩ (.slice A L.length c) _ hneq).trans ((H2.out.2.2.block _ (lt_of_heap z2)).trans z2)
    have hbo : (V2.setCell ⟨bo, 0, none⟩ (.slice A L.length c)).drew.heap[bo]? = some (.cells #[.slice A L.length c] 25 (0, 0)) := (setCell_at V2 bo 0 _ _ (.slice A L.length c) ((H2.out.2.2.block bo (lt_of_heap z1)).trans z1))
    have HZ := Lib.hid (And.intro hdef hbo)
    clear z1 z2 z3 hneq hdef hbo
    go_wp2
    refine ⟨by simp, .inl ⟨_, _, rfl, run_takeDeferred HZ.out.1, ?_⟩⟩
    refine ⟨_, results_best rfl _ _ _ _ (.slice A L.length c) rfl (load_one _ _ _ (one_cell ((World.putObj_heap_other ?_).trans HZ.out.2)).1), ⟨ga, A, c, rfl, ?_, ?_, ?_⟩⟩
    · have := HW6.out.2.2.2.2.2.2.2.2
      omega
    · have h1 := lt_of_heap HV.out.1
      have h2 := lt_of_heap HV.out.2.2.2.2
      have h3 := H2.out.2.1
      exact H2.out.1.keep ((World.putObj_heap_other (by omega)).trans (setCell_far V2 ⟨bo, 0, none⟩ (.slice A L.length c) ga (by show ga ≠ bo; omega)))
    · refine iat_far HV.out.2.1 HV.out.1 HV.out.2.2.2.2 ?_ fun k hk h1 h2 => ?_
      · rw [World.putObj_size]
        show V.heap.size ≤ (V2.setCell _ _).heap.size
        rw [setCell_size]; exact H2.out.2.2.size
      · exact (World.putObj_heap_other h2).trans ((setCell_far V2 ⟨bo, 0, none⟩ (.slice A L.length c) k h1).trans (H2.out.2.2.block k hk))
    · have hB := HW6.out.2.2.2.2.2.1
      have hK := HV.out.2.2.1
      have h6 := HW6.out.2.2.2.2.2.2.2.2
      have h0 := HBO.out
      have hs1 := hK.size
      have hs2 := H2.out.2.2.size
      refine ⟨H2.out.2.2.os.trans (hK.os.trans hB.os), H2.out.2.2.tape.trans (hK.tape.trans hB.tape), H2.out.2.2.output.trans (hK.output.trans hB.output), ?_, fun k hk => ?_⟩
      · rw [World.putObj_size]
        show w.heap.size ≤ (V2.setCell _ _).heap.size
        rw [setCell_size]; omega
      · rw [World.putObj_heap_other (by omega)]
        refine (setCell_far V2 ⟨bo, 0, none⟩ (.slice A L.length c) k (by show k ≠ bo; omega)).trans ((H2.out.2.2.block k (by omega)).trans ((hK.block k (by omega) ?_).trans (hB.block k hk)))
        rw [HW6.out.2.2.2.2.2.2.2.1, if_neg (by omega)]
end Of
end Go.Proofs.Ytjgakcpjphdicaa
namespace Go.Proofs.Ytjgakcpjphdicaa
open Go.RowKit Go.Shelf
namespace Of
theorem Best_ok (w : World) (lA : Option Addr) (lc : Nat) (L : List OB) (hl : OBAt w lA lc L) : Calls Try.prog 12 #[.slice lA L.length lc] w (BestOut w L) := by
  by_cases hv : checkV L = 0
  · by_cases h8 : 8 < L.length
    · have := best_no w lA lc L hl (.inr h8)
      rw [if_neg (by rw [hv]; simp)] at this
      exact this.mono fun e w' h => ⟨fun h2 => absurd hv h2, fun _ _ => h, fun _ h2 => by omega⟩
    · exact (best_yes w lA lc L hl hv (by omega)).mono fun e w' h => ⟨fun h2 => absurd hv h2, fun _ h2 => by omega, fun _ _ => h⟩
  · have := best_no w lA lc L hl (.inl hv)
    rw [if_pos hv] at this
    exact this.mono fun e w' h => ⟨fun _ => h, fun h2 => absurd h2 hv, fun h2 => absurd h2 hv⟩
end Of
end Go.Proofs.Ytjgakcpjphdicaa
