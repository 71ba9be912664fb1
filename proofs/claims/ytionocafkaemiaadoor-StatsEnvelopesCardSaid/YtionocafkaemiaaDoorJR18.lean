/- choose of the reference: all choices of samples are tried. Envelope of the reference. -/
import Derived.Test.YtionocafkaemiaaDoorK3
import Derived.Test.YtionocafkaemiaaDoorJR16
import Derived.Test.YtionocafkaemiaaDoorJR17
namespace Go.Proofs.YtionocafkaemiaaDoor
open Go.RowKit Go.Lib
namespace Sx
/-- What choose leaves. -/
def ChR (L : List Sm) (C : Option Addr) (d : Nat) (b r : Option (List Nat)) (W : World) (e : Ending) (w' : World) : Prop := ∃ A' c', e = .returned (sv A' (boS L r).length c') ∧ SAt w' A' c' (boS L r) ∧ Below W.heap.size W w' ∧ ((A' = C ∧ c' = d ∧ r = b) ∨ ∀ a, A' = some a → W.heap.size ≤ a.block)
theorem boxes3 (w : World) (cs ds fs : Array Value) (T U V : TypeId) : ((((w.alloc (.cells cs T)).alloc (.cells ds U)).alloc (.cells fs V)).heap[w.heap.size]? = some (.cells cs T (0, 0))) ∧ ((((w.alloc (.cells cs T)).alloc (.cells ds U)).alloc (.cells fs V)).heap[w.heap.size + 1]? = some (.cells ds U (0, 0))) ∧ ((((w.alloc (.cells cs T)).alloc (.cells ds U)).alloc (.cells fs V)).heap[w.heap.size + 2]? = some (.cells fs V (0, 0))) ∧ Below w.heap.size w (((w.alloc (.cells cs T)).alloc (.cells ds U)).alloc (.cells fs V)) ∧ (((w.alloc (.cells cs T)).alloc (.cells ds U)).alloc (.cells fs V)).heap.size = w.heap.size + 3 := by
  obtain ⟨k1, k2⟩ := two_boxes w cs ds T U
  have hb := below_box ((w.alloc (.cells cs T)).alloc (.cells ds U)) (.cells fs V)
  have hs : ((w.alloc (.cells cs T)).alloc (.cells ds U)).heap.size = w.heap.size + 2 := by simp
  have k3 := new_at ((w.alloc (.cells cs T)).alloc (.cells ds U)) (.cells fs V)
  rw [hs] at k3
  exact ⟨heap_keep k1 hb, heap_keep k2 hb, k3, ((below_box w _).alloc (by simp) _).alloc (by simp; omega) _, by simp⟩
/-- What the recursion leaves alone: its own boxes but for the one of the best. -/
structure Chs (U V : World) (r : Nat) : Prop where
  below : Below r U V
  size : U.heap.size ≤ V.heap.size
  k0 : V.heap[r]? = U.heap[r]?
  k2 : V.heap[r + 2]? = U.heap[r + 2]?
theorem Chs.refl (U : World) (r : Nat) : Chs U U r := ⟨Below.refl _ _, Nat.le_refl _, rfl, rfl⟩
theorem Chs.step {U V V' : World} {r : Nat} (h : Chs U V r) (hr : r + 2 < U.heap.size) (hb : Below V.heap.size V V') : Chs U V' r := by
  have hs := h.size
  exact ⟨h.below.trans (hb.mono (by omega)), Nat.le_trans hs hb.size, (hb.block r (by omega)).trans h.k0, (hb.block (r + 2) (by omega)).trans h.k2⟩
theorem Chs.drew {U V : World} {r : Nat} (h : Chs U V r) : Chs U V.drew r := ⟨below_drew h.below, h.size, h.k0, h.k2⟩
theorem Chs.part {U V V' : World} {r n : Nat} (h : Chs U V r) (hr : r + 2 < n) (_hn : n ≤ V.heap.size) (hb : Below n V V') : Chs U V' r := by
  have hs := h.size
  exact ⟨h.below.trans (hb.mono (by omega)), Nat.le_trans hs hb.size, (hb.block r (by omega)).trans h.k0, (hb.block (r + 2) (by omega)).trans h.k2⟩
theorem Chs.store {U V V' : World} {r : Nat} (h : Chs U V r) (ho : ∀ q, ¬ q = r + 1 → V'.heap[q]? = V.heap[q]?) (hb : ∀ n, n ≤ r + 1 → Below n V V') : Chs U V' r :=
  ⟨h.below.trans (hb r (by omega)), Nat.le_trans h.size (hb 0 (by omega)).size, (ho r (by omega)).trans h.k0, (ho (r + 2) (by omega)).trans h.k2⟩
def opLd11 : Op := .load 24 (.tmp 11)
def opSt11 : Op := .store 24 (.tmp 11) (.tmp 51)
theorem opLd_is : opLd11 = .load 24 (.tmp 11) := rfl
theorem opSt_is : opSt11 = .store 24 (.tmp 11) (.tmp 51) := rfl
theorem one_eat {W : World} {p : Nat} {f : Nat} (h : W.heap[p]? = some (.cells #[.int .i64 (f : Int)] 3 (0, 0))) : EAt enN 1 W (some ⟨p, 0, none⟩) 1 [f] := by
  refine ⟨Nat.le_refl _, by unfold maxLen; decide, fun j x hx => ⟨p, 0, rfl, lt_of_heap h, fun i v hi hv => ?_⟩⟩
  have hj : j = 0 := by have := (List.getElem?_eq_some_iff.1 hx).1; simp at this; omega
  subst hj
  have hi0 : i = 0 := by omega
  subst hi0
  simp at hx
  subst hx
  simp at hv
  subst hv
  exact one_at h
abbrev bE : Obj := .cells #[] 3
abbrev bO (f : Nat) : Obj := .cells #[.int .i64 (f : Int)] 3
/-- A row of one's own, and a block with one number beside it. -/
structure TwoN (n : Nat) (V : World) (A : Option Addr) (c : Nat) (X : List Nat) (p f : Nat) : Prop where
  row : OwnE enN 1 V n 3 A c X
  one : V.heap[p]? = some (.cells #[.int .i64 (f : Int)] 3 (0, 0))
  ne : A.map (·.block) ≠ some p
theorem TwoN.drew {n : Nat} {V : World} {A : Option Addr} {c : Nat} {X : List Nat} {p f : Nat} (h : TwoN n V A c X p f) : TwoN n V.drew A c X p f := ⟨h.row, h.one, h.ne⟩
theorem twoA (w : World) (f : Nat) : TwoN w.heap.size ((w.alloc bE).alloc (bO f)) (some ⟨w.heap.size, 0, none⟩) 0 [] (w.heap.size + 1) f := by
  have hs : (w.alloc bE).heap.size = w.heap.size + 1 := by simp
  have h1 := new_at (w.alloc bE) (bO f)
  rw [hs] at h1
  exact ⟨row_below (owne_new w _) (below_box _ _), h1, by simp⟩
theorem twoB (w : World) (f : Nat) : TwoN w.heap.size ((w.alloc (bO f)).alloc bE) (some ⟨w.heap.size + 1, 0, none⟩) 0 [] w.heap.size f := by
  have hs : (w.alloc (bO f)).heap.size = w.heap.size + 1 := by simp
  have h1 := owne_new (enc := enN) (k := 1) (w.alloc (bO f)) 3
  rw [hs] at h1
  exact ⟨row_low h1 (by omega), heap_keep (new_at w (bO f)) (below_box _ _), by simp⟩
theorem twoC {w4 : World} {n : Nat} {A : Option Addr} {c : Nat} {X : List Nat} (f : Nat) (h : OwnE enN 1 w4 n 3 A c X) : TwoN n (w4.alloc (bO f)) A c X w4.heap.size f :=
  ⟨row_below h (below_box _ _), new_at _ _, fun e => by have := (OwnE.at EN h).2 _ e; omega⟩
section
variable {w : World} {ops : Array Oper} {o : Oper} {a : Act} {K : Act → World → Prop} {Q : Exit → Act → World → Prop} {F : Prop}
set_option maxRecDepth 100000 in
theorem step_twoN (hgd : o.guard = none) (s x : Operand) (ho : o.op = .call { callee := .builtin .append, args := #[s, x], argTypes := #[91, 91] })
    (n : Nat) (A0 : Option Addr) (c0 : Nat) (X : List Nat) (p f : Nat) (hs : a.eval s = .slice A0 X.length c0) (ht : TwoN n w A0 c0 X p f)
    (A : Option Addr) (c : Nat) (M : List Nat) (hx : a.eval x = .slice A M.length c) (hM : EAt enN 1 w A c M) (hn : A = none → c = 0) (hlen : X.length + M.length ≤ 100000) (hb : n ≤ w.heap.size)
    (h : ∀ A' c' w', TwoN n w' A' c' (X ++ M) p f → Below n w w' → K (a.put o.dst (.slice A' (X ++ M).length c')) w') :
    if Region.wanted o (yielded ops a.tmps) = true then Oper.wp Tryd.prog o a w K Q else F := by
  obtain ⟨A', c', w', hrun, h1, h2, h3⟩ := run_append_e EN Tryd.underlying91 int_info (by decide) w o.type n A0 c0 X ht.row A c M hM hn hlen hb
  have hbel : Below n w w' := below_grown h2 hb fun g e => ((OwnE.at EN ht.row).2 g (own_blk e)).1
  have hpl := lt_of_heap ht.one
  have hpb : w'.heap[p]? = w.heap[p]? := h2.block p hpl fun e => ht.ne (own_blk e.symm)
  refine step_of hgd (wp_append_run s x ho _ _ _ hs hx w' hrun (h A' c' w' ⟨h1, hpb.trans ht.one, fun e => ?_⟩ hbel))
  rcases h3 with h3 | h3
  · exact ht.ne (h3.symm.trans e)
  · rw [h3] at e; injection e with e; omega
end
theorem sat_far {V : World} {A : Option Addr} {c : Nat} {X : List Sm} (h : SAt V A c X) {q : Nat} (hq : ∀ a, A = some a → a.block ≠ q) (x : Value) : SAt (V.setCell ⟨q, 0, none⟩ x) A c X := by
  refine h.keep (by simp) fun g hg _ => Below.heap_setCell _ _ _ _ ?_
  cases A with
  | none => cases hg
  | some a =>
    have e : a.block = g := by injection hg
    have := hq a rfl
    show ¬ g = q
    omega
attribute [local irreducible] wpQuiet
set_option maxRecDepth 100000 in
set_option maxHeartbeats 8000000 in
/-- Too many: the best one so far. -/
theorem choose_over (A : Option Addr) (c : Nat) (L : List Sm) (u : Int) (most k f : Nat) (l : List Nat) (b : Option (List Nat)) (hm : most < l.length) (B : Option Addr) (d : Nat) (C : Option Addr) (e : Nat) (W : World) (_hI : IAt W B d (zs l)) (hC : SAt W C e (boS L b)) :
    Calls Tryd.prog 56 #[sv A L.length c, .int .i64 u, .int .i64 (most : Int), .int .i64 (f : Int), .slice B l.length d, sv C (boS L b).length e] W (ChR L C e b (chooseV (areaL L u) L.length most k l b) W) := by
  have hr : chooseV (areaL L u) L.length most k l b = b := by cases k <;> (unfold chooseV; rw [if_pos hm])
  rw [hr]
  obtain ⟨k1, k2, k3, hbU, hUs⟩ := boxes3 W #[.slice A L.length c] #[.slice C (boS L b).length e] #[.slice none 0 0] 24 24 24
  obtain ⟨U, hU⟩ : ∃ U, U = ((W.alloc (.cells #[.slice A L.length c] 24)).alloc (.cells #[.slice C (boS L b).length e] 24)).alloc (.cells #[.slice none 0 0] 24) := ⟨_, rfl⟩
  rw [← hU] at k1 k2 k3 hbU hUs
  have hmi : (most : Int) < (l.length : Int) := by omega
  have HC := Lib.hid (And.intro hC hbU)
  have hset : (U.setCell ⟨W.heap.size + 2, 0, none⟩ (.slice C (boS L b).length e)).heap[W.heap.size + 2]? = some (.cells #[.slice C (boS L b).length e] 24 (0, 0)) := Boxed.set _ k3
  have HS := Lib.hid hset
  obtain ⟨nb, hnb⟩ : ∃ nb, nb = (boS L b).length := ⟨_, rfl⟩
  rw [← hnb] at k2 HS hU ⊢
  have HN := Lib.hid hnb
  have s1 := one_at k2
  have f2 := frozen_at k3 0
  have s2 := one_at k3
  clear hC hbU hset k1 k2 k3 hnb hUs hr hm
  go_enter Tryd.func56, Tryd.ntmps56
  go_upto_region 1 with (fail)
  rw [← hU]
  clear hU
  go_wp2_with (fail)
  have hb2 : Below W.heap.size W (U.setCell ⟨W.heap.size + 2, 0, none⟩ (.slice C nb e)) := HC.out.2.setCell (p := ⟨W.heap.size + 2, 0, none⟩) (by show _ ≤ _ + 2; omega) _
  exact bodyPost_ret (results_cell_row rfl _ _ (W.heap.size + 2) 24 #[.slice C nb e] (0, 0) _ rfl HS.out Tryd.underlying24 rfl series_size) rfl ⟨C, e, by rw [← HN.out], HC.out.1.below hb2 (Nat.le_refl _), hb2, .inl ⟨rfl, rfl, rfl⟩⟩
set_option maxRecDepth 100000 in
set_option maxHeartbeats 8000000 in
/-- A choice that is whole: it is tried. -/
theorem choose_leafR (A : Option Addr) (c : Nat) (L : List Sm) (u : Int) (most : Nat) (h : OkE L u) (hn : 0 < L.length) (l : List Nat) (b : Option (List Nat)) (hl : Beg L 0 l) (hbo : BoOk L b) (hm : l.length ≤ most) (B : Option Addr) (d : Nat) (C : Option Addr) (e : Nat) (W : World) (hA : SAt W A c L) (hI : IAt W B d (zs l)) (hC : SAt W C e (boS L b)) :
    Calls Tryd.prog 56 #[sv A L.length c, .int .i64 u, .int .i64 (most : Int), .int .i64 (L.length : Int), .slice B l.length d, sv C (boS L b).length e] W (ChR L C e b (chooseV (areaL L u) L.length most 0 l b) W) := by
  have hx := hl.ext hn
  have hs := starts_of hn hx
  have hleaf := choose_leaf h hn (b := b) hl hbo hm
  obtain ⟨k1, k2, k3, hbU, hUs⟩ := boxes3 W #[.slice A L.length c] #[.slice C (boS L b).length e] #[.slice none 0 0] 24 24 24
  obtain ⟨U, hU⟩ : ∃ U, U = ((W.alloc (.cells #[.slice A L.length c] 24)).alloc (.cells #[.slice C (boS L b).length e] 24)).alloc (.cells #[.slice none 0 0] 24) := ⟨_, rfl⟩
  rw [← hU] at k1 k2 k3 hbU hUs
  have hmi : ¬ (most : Int) < (l.length : Int) := by omega
  have HOV := Lib.hid (overR_ok A c L B d l U (hA.below hbU (Nat.le_refl _)) (hI.below hbU (Nat.le_refl _)) h.ok hs)
  have hAX := arE_ok (over_ok h hs)
  have hpos : 0 < (overS L l).length := by rw [over_len]; exact (hl.len hn).1
  have hcov := cov_whole (over_ok h hs) hpos
  have hbb : ∀ x, b = some x → Cov (boS L b) (sm (boS L b) 0).a u ∧ 0 < (boS L b).length := fun x e => by
    have e2 := hbo x e
    subst e
    have h2 := over_ok h (starts_of hn e2)
    have h3 : 0 < (overS L x).length := by rw [over_len]; exact (ext_pos e2).1
    exact ⟨cov_whole h2 h3, h3⟩
  have HH := Lib.hid (And.intro hC (And.intro hbU (And.intro hleaf (And.intro hpos (And.intro hcov (And.intro hbb hUs))))))
  have h0 := (bo_len hbo hn).2
  obtain ⟨nb, hnb⟩ : ∃ nb, nb = (boS L b).length := ⟨_, rfl⟩
  rw [← hnb] at k2 hU h0 ⊢
  obtain ⟨no, hno⟩ : ∃ no, no = (overS L l).length := ⟨_, rfl⟩
  rw [← hno] at HOV
  have HN := Lib.hid (And.intro hnb hno)
  obtain ⟨r, hr⟩ : ∃ r, r = W.heap.size := ⟨_, rfl⟩
  rw [← hr] at k1 k2 k3 HH
  have HK := Lib.hid (And.intro k1 (And.intro k2 (And.intro k3 hr)))
  have s0 := one_at k1
  clear hC hbU hleaf hAX hpos hcov hbb hnb hno hUs hx hs hl hbo hm hA hI k1 k2 k3 h hn
  go_enter Tryd.func56, Tryd.ntmps56
  go_upto_region 1 with (fail)
  rw [← hU, ← hr]
  clear hU hr
  go_upto_region 5 with (go_at_call 81; refine HOV.out.mono ?_; rintro e w1 ⟨A1, c1, rfl, h1, hb1, hf1⟩; have H1 := Lib.hid (And.intro h1 (And.intro hb1 hf1)); clear h1 hb1 hf1)
  obtain ⟨p, hp⟩ : ∃ p, p = w1.heap.size := ⟨_, rfl⟩
  rw [← hp]
  have hrU : r + 3 ≤ p := by have := H1.out.2.1.size; have := HH.out.2.2.2.2.2.2; omega
  have hbp := below_box w1 (.cells #[.slice A1 no c1] 24)
  have kp : (w1.alloc (.cells #[.slice A1 no c1] 24)).heap[p]? = some (.cells #[.slice A1 no c1] 24 (0, 0)) := by rw [hp]; exact new_at w1 _
  have hbV : Below U.heap.size U (w1.alloc (.cells #[.slice A1 no c1] 24)) := H1.out.2.1.trans (hbp.mono H1.out.2.1.size)
  have hSV : SAt (w1.alloc (.cells #[.slice A1 no c1] 24)) A1 c1 (overS L l) := H1.out.1.below hbp (Nat.le_refl _)
  generalize (w1.alloc (.cells #[.slice A1 no c1] 24)) = V at *
  have k1 := heap_keep HK.out.1 hbV
  have k2 := heap_keep HK.out.2.1 hbV
  have k3 := heap_keep HK.out.2.2.1 hbV
  have hWV : Below r W V := HH.out.2.1.trans (hbV.mono (by rw [HH.out.2.2.2.2.2.2]; omega))
  have hCV : SAt V C e (boS L b) := HH.out.1.below hWV (Nat.le_of_eq HK.out.2.2.2.symm)
  have hfar : ∀ a, A1 = some a → a.block ≠ r + 2 := fun a e => by have := H1.out.2.2 a e; have := HH.out.2.2.2.2.2.2; omega
  have hnew : ∀ a, A1 = some a → r ≤ a.block := fun a e => by have := H1.out.2.2 a e; have := HH.out.2.2.2.2.2.2; omega
  have HV := Lib.hid (And.intro k3 (And.intro hWV (And.intro hCV (And.intro hSV (And.intro kp (And.intro hfar hnew))))))
  have s1 := one_at k2
  have s2 := one_at k3
  have sp := one_at kp
  have f2 := frozen_at k3 0
  clear kp hbV hSV k1 k2 k3 hWV hCV hbp hp s0 hfar hnew hrU
  cases b with
  | none =>
    have hz : nb = 0 := h0.2 rfl
    subst hz
    have hres : chooseV (areaL L u) L.length most 0 l none = some l := by rw [HH.out.2.2.1, if_pos (.inl rfl)]
    have HR := Lib.hid hres
    clear hres h0
    go_wp2_with (fail)
    have hb2 : Below W.heap.size W (V.setCell ⟨r + 2, 0, none⟩ (.slice A1 no c1)) := (HV.out.2.1.mono (Nat.le_of_eq HK.out.2.2.2.symm)).setCell (p := ⟨r + 2, 0, none⟩) (by rw [HK.out.2.2.2]; show _ ≤ _ + 2; omega) _
    have hbV2 : SAt (V.setCell ⟨r + 2, 0, none⟩ (.slice A1 no c1)) A1 c1 (overS L l) := sat_far HV.out.2.2.2.1 HV.out.2.2.2.2.2.1 _
    refine bodyPost_ret (results_cell_row rfl _ _ (r + 2) 24 #[.slice A1 no c1] (0, 0) _ rfl (Boxed.set _ HV.out.1) Tryd.underlying24 rfl series_size) rfl ?_
    exact ⟨A1, c1, by rw [HR.out, HN.out.2]; rfl, by rw [HR.out]; exact hbV2, hb2, .inr (by rw [← HK.out.2.2.2]; exact HV.out.2.2.2.2.2.2)⟩
  | some x =>
    have hnb : 0 < nb := by rcases Nat.eq_zero_or_pos nb with h | h
                            · have := h0.1 h; cases this
                            · exact h
    have hnz : ((nb : Int) == 0) = false := by simp; omega
    have hres : chooseV (areaL L u) L.length most 0 l (some x) = if beforeV u (overS L l) (boS L (some x)) = true then some l else some x := by
      rw [HH.out.2.2.1, HN.out.1.symm]
      by_cases hq : beforeV u (overS L l) (boS L (some x)) = true
      · rw [if_pos (.inr hq), if_pos hq]
      · rw [if_neg (by rintro (h1 | h1); (· omega); exact hq h1), if_neg hq]
    have HBF := Lib.hid (beforeR_ok A1 c1 (overS L l) C e (boS L (some x)) u V HV.out.2.2.2.1 HV.out.2.2.1 HH.out.2.2.2.2.1 (HH.out.2.2.2.2.2.1 x rfl).1 HH.out.2.2.2.1 (HH.out.2.2.2.2.2.1 x rfl).2)
    obtain ⟨bz, hbz⟩ : ∃ bz, bz = beforeV u (overS L l) (boS L (some x)) := ⟨_, rfl⟩
    rw [← hbz] at hres HBF
    rw [← HN.out.1, ← HN.out.2] at HBF
    have HR := Lib.hid hres
    clear hres h0 hbz hnb
    cases bz
    · go_wp2_with (go_at_call 82; refine HBF.out.mono ?_; rintro e w5 ⟨rfl, hb5⟩; replace s1 := cell_keep2 hb5 s1; replace sp := cell_keep2 hb5 sp; replace s2 := cell_keep2 hb5 s2; replace f2 := frozen_at (heap_keep HV.out.1 hb5) 0; have H5 := Lib.hid hb5; clear hb5)
      have hWV := (HV.out.2.1.mono (Nat.le_of_eq HK.out.2.2.2.symm)).trans (H5.out.mono HV.out.2.1.size)
      have hb2 : Below W.heap.size W (w5.setCell ⟨r + 2, 0, none⟩ (.slice C nb e)) := hWV.setCell (p := ⟨r + 2, 0, none⟩) (by rw [HK.out.2.2.2]; show _ ≤ _ + 2; omega) _
      refine bodyPost_ret (results_cell_row rfl _ _ (r + 2) 24 #[.slice C nb e] (0, 0) _ rfl (Boxed.set _ (heap_keep HV.out.1 H5.out)) Tryd.underlying24 rfl series_size) rfl ?_
      rw [HR.out, if_neg (by simp)]
      exact ⟨C, e, by rw [HN.out.1], HH.out.1.below hb2 (Nat.le_refl _), hb2, .inl ⟨rfl, rfl, rfl⟩⟩
    · go_wp2_with (go_at_call 82; refine HBF.out.mono ?_; rintro e w5 ⟨rfl, hb5⟩; replace s1 := cell_keep2 hb5 s1; replace sp := cell_keep2 hb5 sp; replace s2 := cell_keep2 hb5 s2; replace f2 := frozen_at (heap_keep HV.out.1 hb5) 0; have H5 := Lib.hid hb5; clear hb5)
      have hWV := (HV.out.2.1.mono (Nat.le_of_eq HK.out.2.2.2.symm)).trans (H5.out.mono HV.out.2.1.size)
      have hb2 : Below W.heap.size W (w5.setCell ⟨r + 2, 0, none⟩ (.slice A1 no c1)) := hWV.setCell (p := ⟨r + 2, 0, none⟩) (by rw [HK.out.2.2.2]; show _ ≤ _ + 2; omega) _
      have hbV2 : SAt (w5.setCell ⟨r + 2, 0, none⟩ (.slice A1 no c1)) A1 c1 (overS L l) := sat_far (HV.out.2.2.2.1.below H5.out (Nat.le_refl _)) HV.out.2.2.2.2.2.1 _
      refine bodyPost_ret (results_cell_row rfl _ _ (r + 2) 24 #[.slice A1 no c1] (0, 0) _ rfl (Boxed.set _ (heap_keep HV.out.1 H5.out)) Tryd.underlying24 rfl series_size) rfl ?_
      rw [HR.out, if_pos True.intro]
      exact ⟨A1, c1, by rw [HN.out.2]; rfl, hbV2, hb2, .inr (by rw [← HK.out.2.2.2]; exact HV.out.2.2.2.2.2.2)⟩
theorem ch_mid {L : List Sm} {W U w5 w9 : World} {r : Nat} {C A9 : Option Addr} {e c9 : Nat} {b r1 : Option (List Nat)} (hr : r = W.heap.size) (hU : U.heap.size = r + 3) (hC : SAt W C e (boS L b)) (x : Value) (hWV : Below r W (w9.setCell ⟨r + 1, 0, none⟩ x)) (h5 : U.heap.size ≤ w5.heap.size)
    (hf9 : (A9 = C ∧ c9 = e ∧ r1 = b) ∨ ∀ a, A9 = some a → w5.heap.size ≤ a.block) (h9 : SAt w9 A9 c9 (boS L r1)) :
    SAt (w9.setCell ⟨r + 1, 0, none⟩ x) A9 c9 (boS L r1) ∧ ((A9 = C ∧ c9 = e ∧ r1 = b) ∨ ∀ a, A9 = some a → U.heap.size ≤ a.block) := by
  rcases hf9 with ⟨h1, h2, h3⟩ | h1
  · refine ⟨?_, .inl ⟨h1, h2, h3⟩⟩
    rw [h1, h2, h3]; exact hC.below hWV (Nat.le_of_eq hr.symm)
  · exact ⟨sat_far h9 (fun a ha => by have := h1 a ha; omega) _, .inr fun a ha => Nat.le_trans h5 (h1 a ha)⟩
/-- The last store. -/
theorem ch_last {L : List Sm} {W U V w : World} {r : Nat} {C A9 A10 : Option Addr} {e c9 c10 : Nat} {b r1 r2 : Option (List Nat)} (hr : r = W.heap.size) (hU : U.heap.size = r + 3) (hC : SAt W C e (boS L b)) (hWV : Below r W V) (hUV : U.heap.size ≤ V.heap.size)
    (hf9 : (A9 = C ∧ c9 = e ∧ r1 = b) ∨ ∀ a, A9 = some a → U.heap.size ≤ a.block) (hb10 : Below V.heap.size V w) (hS10 : SAt w A10 c10 (boS L r2)) (hf10 : (A10 = A9 ∧ c10 = c9 ∧ r2 = r1) ∨ ∀ a, A10 = some a → V.heap.size ≤ a.block) (x : Value) :
    SAt (w.setCell ⟨r + 2, 0, none⟩ x) A10 c10 (boS L r2) ∧ Below W.heap.size W (w.setCell ⟨r + 2, 0, none⟩ x) ∧ ((A10 = C ∧ c10 = e ∧ r2 = b) ∨ ∀ a, A10 = some a → W.heap.size ≤ a.block) := by
  subst hr
  have hb : Below W.heap.size W (w.setCell ⟨W.heap.size + 2, 0, none⟩ x) := (hWV.trans (hb10.mono hWV.size)).setCell (p := ⟨W.heap.size + 2, 0, none⟩) (by show _ ≤ _ + 2; omega) _
  have key : (A10 = C ∧ c10 = e ∧ r2 = b) ∨ ∀ a, A10 = some a → U.heap.size ≤ a.block := by
    rcases hf10 with ⟨h1, h2, h3⟩ | h1
    · rcases hf9 with ⟨h4, h5, h6⟩ | h4
      · exact .inl ⟨h1.trans h4, h2.trans h5, h3.trans h6⟩
      · exact .inr fun a ha => h4 a (h1 ▸ ha)
    · exact .inr fun a ha => Nat.le_trans hUV (h1 a ha)
  rcases key with ⟨h1, h2, h3⟩ | h1
  · refine ⟨?_, hb, .inl ⟨h1, h2, h3⟩⟩
    rw [h1, h2, h3]; exact hC.below hb (Nat.le_refl _)
  · exact ⟨sat_far hS10 (fun a ha => by have := h1 a ha; omega) _, hb, .inr fun a ha => by have := h1 a ha; omega⟩
attribute [local go_sem] opLd11 opSt11
set_option maxRecDepth 100000 in
set_option maxHeartbeats 8000000 in
/-- With the next sample, then without it. -/
theorem choose_step (A : Option Addr) (c : Nat) (L : List Sm) (u : Int) (most k f f1 : Nat) (hf : f + (k + 1) = L.length) (hf1 : f1 = f + 1) (hk : k + 1 < L.length) (hn5 : L.length ≤ 500) (l : List Nat) (b : Option (List Nat)) (hl : Beg L (k + 1) l) (hbo : BoOk L b) (hm : l.length ≤ most)
    (IH : ∀ (l : List Nat) (b : Option (List Nat)), Beg L k l → BoOk L b → ∀ (B : Option Addr) (d : Nat) (C : Option Addr) (e : Nat) (W : World), SAt W A c L → IAt W B d (zs l) → SAt W C e (boS L b) →
      Calls Tryd.prog 56 #[sv A L.length c, .int .i64 u, .int .i64 (most : Int), .int .i64 (f1 : Int), .slice B l.length d, sv C (boS L b).length e] W (ChR L C e b (chooseV (areaL L u) L.length most k l b) W))
    (B : Option Addr) (d : Nat) (C : Option Addr) (e : Nat) (W : World) (hA : SAt W A c L) (hI : IAt W B d (zs l)) (hC : SAt W C e (boS L b)) :
    Calls Tryd.prog 56 #[sv A L.length c, .int .i64 u, .int .i64 (most : Int), .int .i64 (f : Int), .slice B l.length d, sv C (boS L b).length e] W (ChR L C e b (chooseV (areaL L u) L.length most (k + 1) l b) W) := by
  obtain ⟨hl2, hl1⟩ := hl.next hk
  rw [show L.length - (k + 1) = f by omega] at hl2
  have hres : chooseV (areaL L u) L.length most (k + 1) l b = chooseV (areaL L u) L.length most k l (chooseV (areaL L u) L.length most k (l ++ [f]) b) := by
    show (if most < l.length then b else chooseV (areaL L u) L.length most k l (chooseV (areaL L u) L.length most k (l ++ [L.length - (k + 1)]) b)) = _
    rw [if_neg (by omega), show L.length - (k + 1) = f by omega]
  rw [hres]
  clear hres
  have hll := (hl.len (by omega)).2
  have hlp := (hl.len (by omega)).1
  obtain ⟨l2, hl2e⟩ : ∃ l2, l2 = l ++ [f] := ⟨_, rfl⟩
  rw [← hl2e] at hl2 ⊢
  obtain ⟨r1, hr1⟩ : ∃ r1, r1 = chooseV (areaL L u) L.length most k l2 b := ⟨_, rfl⟩
  have hbo1 : BoOk L r1 := by rw [hr1]; exact choose_bo hl2 (by omega) hbo
  obtain ⟨r2, hr2⟩ : ∃ r2, r2 = chooseV (areaL L u) L.length most k l r1 := ⟨_, rfl⟩
  rw [← hr1, ← hr2]
  obtain ⟨k1, k2, k3, hbU, hUs⟩ := boxes3 W #[.slice A L.length c] #[.slice C (boS L b).length e] #[.slice none 0 0] 24 24 24
  obtain ⟨U, hU⟩ : ∃ U, U = ((W.alloc (.cells #[.slice A L.length c] 24)).alloc (.cells #[.slice C (boS L b).length e] 24)).alloc (.cells #[.slice none 0 0] 24) := ⟨_, rfl⟩
  rw [← hU] at k1 k2 k3 hbU hUs
  obtain ⟨nb, hnb⟩ : ∃ nb, nb = (boS L b).length := ⟨_, rfl⟩
  obtain ⟨n9, hn9⟩ : ∃ n9, n9 = (boS L r1).length := ⟨_, rfl⟩
  obtain ⟨n10, hn10⟩ : ∃ n10, n10 = (boS L r2).length := ⟨_, rfl⟩
  obtain ⟨r, hr⟩ : ∃ r, r = W.heap.size := ⟨_, rfl⟩
  rw [← hr] at k1 k2 k3 hbU hUs
  have hWV : ∀ V, Chs U V r → Below r W V := fun V hV => hbU.trans hV.below
  have hIH1 : ∀ V B d, Chs U V r → EAt enN 1 V B d l2 → Calls Tryd.prog 56 #[sv A L.length c, .int .i64 u, .int .i64 (most : Int), .int .i64 (f1 : Int), .slice B l2.length d, sv C nb e] V (fun x w' => ∃ A' c', x = .returned (sv A' n9 c') ∧ SAt w' A' c' (boS L r1) ∧ Below V.heap.size V w' ∧ ((A' = C ∧ c' = e ∧ r1 = b) ∨ ∀ a, A' = some a → V.heap.size ≤ a.block)) := fun V B d hV hB => by
    have := IH l2 b hl2 hbo B d C e V (hA.below (hWV V hV) (Nat.le_of_eq hr.symm)) (iat_N.2 hB) (hC.below (hWV V hV) (Nat.le_of_eq hr.symm))
    rw [← hnb, ← hr1] at this
    rw [hn9]
    exact this
  have hIH2 : ∀ V A9 c9, Chs U V r → SAt V A9 c9 (boS L r1) → Calls Tryd.prog 56 #[sv A L.length c, .int .i64 u, .int .i64 (most : Int), .int .i64 (f1 : Int), .slice B l.length d, sv A9 n9 c9] V (fun x w' => ∃ A' c', x = .returned (sv A' n10 c') ∧ SAt w' A' c' (boS L r2) ∧ Below V.heap.size V w' ∧ ((A' = A9 ∧ c' = c9 ∧ r2 = r1) ∨ ∀ a, A' = some a → V.heap.size ≤ a.block)) := fun V A9 c9 hV h9 => by
    have := IH l r1 hl1 hbo1 B d A9 c9 V (hA.below (hWV V hV) (Nat.le_of_eq hr.symm)) (hI.below (hWV V hV) (Nat.le_of_eq hr.symm)) h9
    rw [← hn9, ← hr2] at this
    rw [hn10]
    exact this
  have HI1 := Lib.hid hIH1
  have HI2 := Lib.hid hIH2
  have hIN : ∀ V, Chs U V r → EAt enN 1 V B d l := fun V hV => iat_N.1 (hI.below (hWV V hV) (Nat.le_of_eq hr.symm))
  have hBn : B = none → d = 0 := fun hB => by
    obtain ⟨g, o, h1, _⟩ := zs_at hI hlp
    rw [hB] at h1; cases h1
  have HB := Lib.hid (And.intro hIN hBn)
  have HL := Lib.hid (And.intro hl2e hll)
  have HH := Lib.hid (And.intro hC (And.intro hWV (And.intro hUs (And.intro hr (And.intro hnb (And.intro hn9 (And.intro hn10 k3)))))))
  rw [← hnb] at k2 hU ⊢
  have hmi : ¬ (most : Int) < (l.length : Int) := by omega
  have hfL : ((f : Int) == (L.length : Int)) = false := by simp; omega
  have hw1 : IntKind.i64.wrap ((f : Int) + 1) = (f1 : Int) := by rw [IntWalk.i64_in _ (by omega)]; omega
  have s0 := one_at k1
  have hch := Chs.refl U r
  have HS := Lib.hid (show ∀ V, Chs U V r → Below r U V ∧ V.cell? ⟨r, 0, none⟩ = some (.slice A L.length c) from fun V hV => ⟨hV.below, (World.cell?_of_block (a := ⟨r, _, none⟩) hV.k0).trans s0⟩)
  have kb := k2
  have hr3 : r + 2 < U.heap.size := by omega
  clear IH hIH1 hIH2 hIN hBn hl2e hll hlp hC hWV hr hnb hn9 hn10 k1 k2 k3 hbU hA hI hl hl2 hl1 hbo hbo1 hr1 hr2 hm hf hk hf1 hUs
  go_enter Tryd.func56, Tryd.ntmps56
  go_upto_region 1 with (fail)
  rw [← hU, ← HH.out.2.2.2.1]
  clear hU
  go_upto_region 8 with (fail)
  clear s0
  have hkey : ∀ V V', Below U.heap.size V V' → Chs U V r → V.heap[r + 1]? = some (.cells #[.slice C nb e] 24 (0, 0)) → Chs U V' r ∧ V'.heap[r + 1]? = some (.cells #[.slice C nb e] 24 (0, 0)) ∧ Chs U V'.drew r ∧ V'.cell? ⟨r + 1, 0, none⟩ = some (.slice C nb e) ∧ V'.frozen? ⟨r + 1, 0, none⟩ = false := fun V V' hV h1 h2 => by
    have h3 := (hV.block (r + 1) (by omega)).trans h2
    exact ⟨h1.part hr3 h1.size hV, h3, (h1.part hr3 h1.size hV).drew, one_at h3, frozen_at h3 0⟩
  obtain ⟨c0, b0, d0, x0, y0⟩ := hkey U U (Below.refl _ _) hch kb
  obtain ⟨cE, bE1, dE, xE, yE⟩ := hkey U (U.alloc bE) (below_box _ _) hch kb
  obtain ⟨cO, bO1, dO, xO, yO⟩ := hkey U (U.alloc (bO f)) (below_box _ _) hch kb
  obtain ⟨cA, bA1, dA, xA, yA⟩ := hkey (U.alloc bE) ((U.alloc bE).alloc (bO f)) ((below_box _ _).mono cE.size) cE bE1
  obtain ⟨cB, bB1, dB, xB, yB⟩ := hkey (U.alloc (bO f)) ((U.alloc (bO f)).alloc bE) ((below_box _ _).mono cO.size) cO bO1
  have HA := Lib.hid (And.intro dA (And.intro (show ((U.alloc bE).alloc (bO f)).drew.heap[r + 1]? = _ from bA1) cA))
  have HBB := Lib.hid (And.intro dB (And.intro (show ((U.alloc (bO f)).alloc bE).drew.heap[r + 1]? = _ from bB1) cB))
  have HE := Lib.hid (And.intro dE (And.intro (show (U.alloc bE).drew.heap[r + 1]? = _ from bE1) cE))
  have HO := Lib.hid (And.intro cO (And.intro bO1 dO))
  have HKEY := Lib.hid hkey
  have s1 := HS.out U.drew hch.drew
  have H0 := Lib.hid (And.intro c0 (And.intro b0 d0))
  clear hkey c0 b0 d0 cE bE1 dE cO bO1 dO cA bA1 dA cB bB1 dB hch kb
  have TA := Lib.hid (twoA U f).drew
  have TB := Lib.hid (twoB U f).drew
  have OC := Lib.hid (show OwnE enN 1 (U.alloc bE).drew U.heap.size 3 (some ⟨U.heap.size, 0, none⟩) 0 [] from owne_new (enc := enN) (k := 1) U 3)
  rw [← opLd_is, ← opSt_is]
  go_cut [12] from 39 to 52 (fun p wx => p = .pointer (some ⟨r + 1 + 1, 0, none⟩) ∧ ∃ A9 c9, SAt wx A9 c9 (boS L r1) ∧ Chs U wx r ∧ wx.heap[r + 1]? = some (.cells #[.slice A9 n9 c9] 24 (0, 0)) ∧ ((A9 = C ∧ c9 = e ∧ r1 = b) ∨ ∀ a, A9 = some a → U.heap.size ≤ a.block))
  case first =>
    go_region_held3 (fun w' => Below r U w' ∧ w'.cell? ⟨r, 0, none⟩ = some (.slice A L.length c))
      (first | assumption | (with_reducible exact HS.out _ H0.out.2.2) | (with_reducible exact HS.out _ H0.out.1) | (with_reducible exact HS.out _ HE.out.2.2) | (with_reducible exact HS.out _ HE.out.1) | (with_reducible exact HS.out _ HO.out.2.2) | (with_reducible exact HS.out _ HO.out.1) | (with_reducible exact HS.out _ HA.out.2.2) | (with_reducible exact HS.out _ HA.out.1) | (with_reducible exact HS.out _ HBB.out.2.2) | (with_reducible exact HS.out _ HBB.out.1) | (with_reducible exact HS.out _ H4.out.1) | (with_reducible exact HS.out _ H4.out.2) | (with_reducible exact HS.out _ HT1.out.2.1) | (with_reducible exact HS.out _ HT1.out.2.2.2) | (with_reducible exact HS.out _ H5.out.2.1) | (with_reducible exact HS.out _ H5.out.2.2.2) | (with_reducible exact HS.out _ H9.out.1) | (with_reducible exact HS.out _ H9.out.2.2.2.2.2.2) | (with_reducible exact HS.out _ H9.out.2.2.2.2.2.2.drew))
      (first
        | (go_at_call 56; with_reducible refine (HI1.out _ _ _ H5.out.2.1 (OwnE.at EN H5.out.1).1).mono ?_; rintro e9 w9 ⟨A9, c9, rfl, h9, hb9, hf9⟩; obtain ⟨q1, q2, q3, q4, q5⟩ := HKEY.out _ _ (hb9.mono H5.out.2.1.size) H5.out.2.1 H5.out.2.2.1; have hq := q1.store (fun q hq => Below.heap_setCell _ _ _ _ (by simpa using hq)) (fun n hn => (Below.refl n w9).setCell (p := ⟨r + 1, 0, none⟩) hn (.slice A9 n9 c9)); have H9 := Lib.hid (And.intro q1 (And.intro q2 (And.intro h9 (And.intro hf9 (And.intro hb9 (And.intro H5.out.2.1 hq)))))); clear q1 q2 q3 h9 hf9 hb9 hq)
        | (refine step_e2 EN Tryd.underlying91 int_info (by decide) ?_ (.tmp 46) (.tmp 48) ?_ U.heap.size A4 c4 l ?_ HT1.out.1.row (some ⟨_, 0, none⟩) 1 [f] ?_ (one_eat HT1.out.1.one) (fun h => by cases h) ?_ HT1.out.2.1.size ?_
           (exact rfl)
           (exact rfl)
           (exact rfl)
           (exact rfl)
           (have := HL.out.2; simp only [List.length_cons, List.length_nil]; omega)
           intro A5 c5 w5 h5 b5 k5
           rw [← HL.out.1] at h5 ⊢
           obtain ⟨q1, q2, q3, x5, y5⟩ := HKEY.out _ _ b5 HT1.out.2.1 HT1.out.2.2.1
           have H5 := Lib.hid (And.intro h5 (And.intro q1 (And.intro q2 q3)))
           clear h5 b5 k5 q1 q2 q3)
        | (refine step_twoN ?_ (.tmp 44) (.tmp 45) ?_ U.heap.size (some ⟨U.heap.size, 0, none⟩) 0 [] (U.heap.size + 1) f ?_ TA.out B d l ?_ (HB.out.1 _ HA.out.1) HB.out.2 ?_ HA.out.1.size ?_
           (exact rfl)
           (exact rfl)
           (exact rfl)
           (exact rfl)
           (have := HL.out.2; simp only [List.length_nil]; omega)
           intro A4 c4 w4 h4 b4
           rw [List.nil_append] at h4 ⊢
           obtain ⟨q1, q2, q3, x4, y4⟩ := HKEY.out _ _ b4 HA.out.1 HA.out.2.1
           have HT1 := Lib.hid (And.intro h4 (And.intro q1 (And.intro q2 q3)))
           clear h4 b4 q1 q2 q3)
        | (refine step_twoN ?_ (.tmp 44) (.tmp 45) ?_ U.heap.size (some ⟨U.heap.size + 1, 0, none⟩) 0 [] (U.heap.size) f ?_ TB.out B d l ?_ (HB.out.1 _ HBB.out.1) HB.out.2 ?_ HBB.out.1.size ?_
           (exact rfl)
           (exact rfl)
           (exact rfl)
           (exact rfl)
           (have := HL.out.2; simp only [List.length_nil]; omega)
           intro A4 c4 w4 h4 b4
           rw [List.nil_append] at h4 ⊢
           obtain ⟨q1, q2, q3, x4, y4⟩ := HKEY.out _ _ b4 HBB.out.1 HBB.out.2.1
           have HT1 := Lib.hid (And.intro h4 (And.intro q1 (And.intro q2 q3)))
           clear h4 b4 q1 q2 q3)
        | (refine step_e2 EN Tryd.underlying91 int_info (by decide) ?_ (.tmp 44) (.tmp 45) ?_ U.heap.size (some ⟨U.heap.size, 0, none⟩) 0 [] ?_ OC.out B d l ?_ (HB.out.1 _ HE.out.1) HB.out.2 ?_ HE.out.1.size ?_
           (exact rfl)
           (exact rfl)
           (exact rfl)
           (exact rfl)
           (have := HL.out.2; simp only [List.length_nil]; omega)
           intro A4 c4 w4 h4 b4 k4
           rw [List.nil_append] at h4 ⊢
           obtain ⟨q1, q2, q3, x4, y4⟩ := HKEY.out _ _ b4 HE.out.1 HE.out.2.1
           obtain ⟨q6, q7, q8, x4c, y4c⟩ := HKEY.out _ (w4.alloc (bO f)) ((below_box _ _).mono q1.size) q1 q2
           have H4 := Lib.hid (And.intro q1 q3)
           have HT1 := Lib.hid (And.intro (twoC f h4) (And.intro q6 (And.intro q7 q8)))
           clear h4 b4 k4 q1 q2 q3 q6 q7 q8))
    all_goals
      (try go_wp2_with (fail))
      go_meet
      obtain ⟨g1, g2⟩ := ch_mid HH.out.2.2.2.1 HH.out.2.2.1 HH.out.1 (.slice A9 n9 c9) (HH.out.2.1 _ H9.out.2.2.2.2.2.2) H9.out.2.2.2.2.2.1.size H9.out.2.2.2.1 H9.out.2.2.1
      exact ⟨rfl, A9, c9, g1, H9.out.2.2.2.2.2.2, Boxed.set _ H9.out.2.1, g2⟩
  case rest =>
  obtain ⟨rfl, A9, c9, h9, hch, kb, hf9⟩ := hcut
  obtain ⟨V, hV⟩ : ∃ V, V = wc := ⟨_, rfl⟩
  subst hV
  have s0 := (HS.out V hch).2
  have t0 := one_at kb
  have k3 := hch.k2.trans HH.out.2.2.2.2.2.2.2
  have s2 := one_at k3
  have f2 := frozen_at k3 0
  have HC := Lib.hid (And.intro h9 (And.intro hch (And.intro hf9 k3)))
  clear h9 hch kb hf9 k3 s1 x0 y0 xE yE xO yO xA yA xB yB
  go_wp2_with (go_at_call 56; with_reducible refine (HI2.out _ _ _ HC.out.2.1 HC.out.1).mono ?_; rintro e10 w10 ⟨A10, c10, rfl, h10, hb10, hf10⟩; have k4 := heap_keep HC.out.2.2.2 hb10; replace s2 := one_at k4; replace f2 := frozen_at k4 0; have H10 := Lib.hid (And.intro h10 (And.intro hb10 (And.intro hf10 k4))); clear h10 hb10 hf10 k4)
  obtain ⟨g1, g2, g3⟩ := ch_last HH.out.2.2.2.1 HH.out.2.2.1 HH.out.1 (HH.out.2.1 _ HC.out.2.1) HC.out.2.1.size HC.out.2.2.1 H10.out.2.1 H10.out.1 H10.out.2.2.1 (.slice A10 n10 c10)
  exact bodyPost_ret (results_cell_row rfl _ _ (r + 2) 24 #[.slice A10 n10 c10] (0, 0) _ rfl (Boxed.set _ H10.out.2.2.2) Tryd.underlying24 rfl series_size) rfl ⟨A10, c10, by rw [HH.out.2.2.2.2.2.2.1], g1, g2, g3⟩
/-- choose, all of it. -/
theorem chooseR_ok (A : Option Addr) (c : Nat) (L : List Sm) (u : Int) (most : Nat) (h : OkE L u) (hn : 0 < L.length) : ∀ (k f : Nat), f + k = L.length → k < L.length → ∀ (l : List Nat) (b : Option (List Nat)), Beg L k l → BoOk L b → ∀ (B : Option Addr) (d : Nat) (C : Option Addr) (e : Nat) (W : World), SAt W A c L → IAt W B d (zs l) → SAt W C e (boS L b) →
    Calls Tryd.prog 56 #[sv A L.length c, .int .i64 u, .int .i64 (most : Int), .int .i64 (f : Int), .slice B l.length d, sv C (boS L b).length e] W (ChR L C e b (chooseV (areaL L u) L.length most k l b) W)
  | k, f, hf, hk, l, b, hl, hbo, B, d, C, e, W, hA, hI, hC => by
    by_cases hm : most < l.length
    · exact choose_over A c L u most k f l b hm B d C e W hI hC
    · match k, hf, hk, hl with
      | 0, hf, hk, hl =>
        obtain rfl : f = L.length := by omega
        exact choose_leafR A c L u most h hn l b hl hbo (by omega) B d C e W hA hI hC
      | k + 1, hf, hk, hl =>
        exact choose_step A c L u most k f (f + 1) hf rfl hk h.ok.len l b hl hbo (by omega) (fun l b hl hbo B d C e W hA hI hC => chooseR_ok A c L u most h hn k (f + 1) (by omega) (by omega) l b hl hbo B d C e W hA hI hC) B d C e W hA hI hC
end Sx
end Go.Proofs.YtionocafkaemiaaDoor
namespace Go.Proofs.YtionocafkaemiaaDoor
open Go.RowKit Go.Lib
namespace Sx
/-- What Envelope answers. -/
def EvR (L : List Sm) (u most : Int) (W : World) (e : Ending) (w' : World) : Prop := ∃ A' c', e = .returned (.tuple #[sv A' (envS L u most).1.length c', .int .i64 (envS L u most).2]) ∧ SAt w' A' c' (envS L u most).1 ∧ Below W.heap.size W w'
theorem evr_err {L : List Sm} {u most : Int} {W w : World} {k : Int} (h : chkE L u most = k) (hk : k ≠ 0) (hb : Below W.heap.size W w) : EvR L u most W (.returned (.tuple #[.agg #[.slice none 0 0], .int .i64 k])) w := by
  have he : envS L u most = ([], k) := by unfold envS; rw [h, if_pos hk]
  refine ⟨none, 0, by rw [he]; rfl, ?_, hb⟩
  rw [he]
  exact eat_nil _
attribute [local irreducible] wpQuiet
set_option maxRecDepth 100000 in
set_option maxHeartbeats 8000000 in
theorem EnvelopeR_ok (A : Option Addr) (c : Nat) (L : List Sm) (u most : Int) (W : World) (hL : SAt W A c L) :
    Calls Tryd.prog 18 #[sv A L.length c, .int .i64 u, .int .i64 most] W (EvR L u most W) := by
  have hl1 := hL.1
  have hl2 := hL.2.1
  unfold maxLen at hl2
  obtain ⟨k1, k2⟩ := two_boxes W #[.slice A L.length c] #[.slice none 0 0] 24 24
  have hb : Below W.heap.size W ((W.alloc (.cells #[.slice A L.length c] 24)).alloc (.cells #[.slice none 0 0] 24)) := (below_box W _).alloc (by simp) _
  have HC := Lib.hid (fun V (hV : Below W.heap.size W V) => checkR_ok A c L V (hL.below hV (Nat.le_refl _)))
  have HLs := Lib.hid hL
  go_enter Tryd.func18, Tryd.ntmps18
  go_upto_region 1 with (fail)
  obtain ⟨U, hU⟩ : ∃ U, U = (W.alloc (.cells #[.slice A L.length c] 24)).alloc (.cells #[.slice none 0 0] 24) := ⟨_, rfl⟩
  rw [← hU] at k1 k2 hb ⊢
  have s0 := one_at k1
  have HU := Lib.hid (And.intro hb (And.intro k2 k1))
  clear hU hb k1 k2 hL
  obtain ⟨er, her⟩ : ∃ e, e = checkS L := ⟨_, rfl⟩
  rw [← her] at HC
  have HER := Lib.hid her
  clear her
  go_upto_region 2 with (go_at_call 36; refine (HC.out _ HU.out.1).mono ?_; rintro e w1 ⟨rfl, hb1⟩; replace s0 := cell_keep2 hb1 s0; have H1 := Lib.hid hb1; clear hb1)
  have r1 := heap_keep HU.out.2.1 H1.out
  have z0 := one_at r1
  have zf := frozen_at r1 0
  have HW := Lib.hid (And.intro (HU.out.1.trans (H1.out.mono HU.out.1.size)) r1)
  clear H1 r1 HU
  by_cases hc : er = 0
  · have hcs : checkS L = 0 := by rw [← HER.out]; exact hc
    have hok := (checkS_ok L).1 hcs
    have hl5 := hok.len
    obtain ⟨b1, hb1⟩ : ∃ b, b = inT u := ⟨_, rfl⟩
    have hT1 := fun V => timeR_ok u V
    rw [← hb1] at hT1
    have hchk : chkE L u most = if b1 = false ∨ (0 < L.length ∧ u ≤ (sm L (L.length - 1)).a) ∨ most < 1 ∨ 500 < most then 7 else if L.length = 0 then 4 else 0 := by
      unfold chkE; rw [if_neg (by simpa using hcs), hb1]
    have HCK := Lib.hid (And.intro hchk (And.intro hok hb1))
    subst hc
    clear hchk hok hb1 hcs
    cases b1
    · have hce : chkE L u most = 7 := by rw [HCK.out.1, if_pos (.inl rfl)]
      have HCE := Lib.hid hce
      clear hce
      go_wp2_with (go_at_call 55; refine (hT1 _).mono ?_; rintro e w2 ⟨rfl, hw⟩; have hw := hw.symm; subst hw)
      refine bodyPost_ret (results_row2 rfl _ _ (W.heap.size + 1) 24 #[.slice none 0 0] (0, 0) _ rfl (Boxed.set _ HW.out.2) Tryd.underlying24 series_sz) rfl ?_
      exact evr_err HCE.out (by decide) (HW.out.1.setCell (Nat.le_succ _) _)
    · by_cases hn : L.length = 0
      · have hli : (L.length : Int) = 0 := by omega
        rw [hn] at s0
        simp only [hn] at hl1 ⊢
        by_cases h1 : most < 1
        · have hce : chkE L u most = 7 := by rw [HCK.out.1, if_pos (.inr (.inr (.inl h1)))]
          have HCE := Lib.hid hce
          clear hce
          go_wp2_with (go_at_call 55; refine (hT1 _).mono ?_; rintro e w2 ⟨rfl, hw⟩; have hw := hw.symm; subst hw)
          refine bodyPost_ret (results_row2 rfl _ _ (W.heap.size + 1) 24 #[.slice none 0 0] (0, 0) _ rfl (Boxed.set _ HW.out.2) Tryd.underlying24 series_sz) rfl ?_
          exact evr_err HCE.out (by decide) (HW.out.1.setCell (Nat.le_succ _) _)
        · by_cases h2 : 500 < most
          · have hce : chkE L u most = 7 := by rw [HCK.out.1, if_pos (.inr (.inr (.inr h2)))]
            have HCE := Lib.hid hce
            clear hce
            go_wp2_with (go_at_call 55; refine (hT1 _).mono ?_; rintro e w2 ⟨rfl, hw⟩; have hw := hw.symm; subst hw)
            refine bodyPost_ret (results_row2 rfl _ _ (W.heap.size + 1) 24 #[.slice none 0 0] (0, 0) _ rfl (Boxed.set _ HW.out.2) Tryd.underlying24 series_sz) rfl ?_
            exact evr_err HCE.out (by decide) (HW.out.1.setCell (Nat.le_succ _) _)
          · have hce : chkE L u most = 4 := by rw [HCK.out.1, if_neg (by rintro (h | h | h | h); (· cases h); (· omega); (· exact h1 h); exact h2 h), if_pos hn]
            have HCE := Lib.hid hce
            clear hce
            go_wp2_with (go_at_call 55; refine (hT1 _).mono ?_; rintro e w2 ⟨rfl, hw⟩; have hw := hw.symm; subst hw)
            refine bodyPost_ret (results_row2 rfl _ _ (W.heap.size + 1) 24 #[.slice none 0 0] (0, 0) _ rfl (Boxed.set _ HW.out.2) Tryd.underlying24 series_sz) rfl ?_
            exact evr_err HCE.out (by decide) (HW.out.1.setCell (Nat.le_succ _) _)
      · obtain ⟨k, hk⟩ : ∃ k, L.length = k + 1 := ⟨L.length - 1, by omega⟩
        have hkk : k < L.length := by omega
        obtain ⟨g, o, rfl, hg, d0, d1⟩ := (HLs.out.below HW.out.1 (Nat.le_refl _)).s2 hkk
        have hck := HCK.out.1
        rw [show L.length - 1 = k by omega] at hck
        simp only [show 0 < L.length by omega, true_and, Bool.true_eq_false, false_or, if_neg hn] at hck
        obtain ⟨la, hla⟩ : ∃ x, x = (sm L k).a := ⟨_, rfl⟩
        rw [← hla] at d0 hck
        have HK := Lib.hid (And.intro hk hck)
        rw [hk] at hl1 s0 hl5 ⊢
        clear d1 hg hkk hn hk hck hla
        by_cases h0 : u ≤ la
        · have hce : chkE L u most = 7 := by rw [HK.out.2, if_pos (.inl h0)]
          have HCE := Lib.hid hce
          clear hce
          go_wp2_with (go_at_call 55; refine (hT1 _).mono ?_; rintro e w2 ⟨rfl, hw⟩; have hw := hw.symm; subst hw)
          refine bodyPost_ret (results_row2 rfl _ _ (W.heap.size + 1) 24 #[.slice none 0 0] (0, 0) _ rfl (Boxed.set _ HW.out.2) Tryd.underlying24 series_sz) rfl ?_
          exact evr_err HCE.out (by decide) (HW.out.1.setCell (Nat.le_succ _) _)
        · by_cases h1 : most < 1
          · have hce : chkE L u most = 7 := by rw [HK.out.2, if_pos (.inr (.inl h1))]
            have HCE := Lib.hid hce
            clear hce
            go_wp2_with (go_at_call 55; refine (hT1 _).mono ?_; rintro e w2 ⟨rfl, hw⟩; have hw := hw.symm; subst hw)
            refine bodyPost_ret (results_row2 rfl _ _ (W.heap.size + 1) 24 #[.slice none 0 0] (0, 0) _ rfl (Boxed.set _ HW.out.2) Tryd.underlying24 series_sz) rfl ?_
            exact evr_err HCE.out (by decide) (HW.out.1.setCell (Nat.le_succ _) _)
          · by_cases h2 : 500 < most
            · have hce : chkE L u most = 7 := by rw [HK.out.2, if_pos (.inr (.inr h2))]
              have HCE := Lib.hid hce
              clear hce
              go_wp2_with (go_at_call 55; refine (hT1 _).mono ?_; rintro e w2 ⟨rfl, hw⟩; have hw := hw.symm; subst hw)
              refine bodyPost_ret (results_row2 rfl _ _ (W.heap.size + 1) 24 #[.slice none 0 0] (0, 0) _ rfl (Boxed.set _ HW.out.2) Tryd.underlying24 series_sz) rfl ?_
              exact evr_err HCE.out (by decide) (HW.out.1.setCell (Nat.le_succ _) _)
            · have hce : chkE L u most = 0 := by rw [HK.out.2, if_neg (by rintro (h | h | h); (· exact h0 h); (· exact h1 h); exact h2 h)]
              obtain ⟨hE, hn, hm1, _⟩ := chkE_ok hce
              obtain ⟨m, rfl⟩ : ∃ m : Nat, most = (m : Int) := ⟨most.toNat, by omega⟩
              have he : envS L u (m : Int) = (overS L (bestL L u m), 0) := if_neg (by simpa using hce)
              have hch : chooseV (areaL L u) L.length m (L.length - 1) [0] none = some (bestL L u m) := (bestL_is hn (by omega)).1
              obtain ⟨V, hV⟩ : ∃ V, V = w1.alloc (.cells #[.int .i64 0] 3) := ⟨_, rfl⟩
              have hbV : Below w1.heap.size w1 V := by rw [hV]; exact below_box _ _
              have hnV : V.heap[w1.heap.size]? = some (.cells #[.int .i64 0] 3 (0, 0)) := by rw [hV]; exact new_at _ _
              have hWV := HW.out.1.trans (hbV.mono HW.out.1.size)
              obtain ⟨na, hna⟩ : ∃ n, n = (overS L (bestL L u m)).length := ⟨_, rfl⟩
              have hcall : Calls Tryd.prog 56 #[sv (some ⟨g, o, none⟩) (k + 1) c, .int .i64 u, .int .i64 (m : Int), .int .i64 1, .slice (some ⟨w1.heap.size, 0, none⟩) 1 1, sv none 0 0] V (fun x w' => ∃ A' c', x = .returned (sv A' na c') ∧ SAt w' A' c' (overS L (bestL L u m)) ∧ Below V.heap.size V w' ∧ ∀ a, A' = some a → V.heap.size ≤ a.block) := by
                have := chooseR_ok (some ⟨g, o, none⟩) c L u m hE hn (L.length - 1) 1 (by omega) (by omega) [0] none ⟨[], rfl, List.Pairwise.nil, fun e he => by cases he⟩ (fun x hx => by cases hx) (some ⟨w1.heap.size, 0, none⟩) 1 none 0 V (HLs.out.below hWV (Nat.le_refl _)) (iat_N.2 (one_eat (f := 0) hnV)) (eat_nil _)
                rw [hch, show (sv (some ⟨g, o, none⟩) L.length c) = sv (some ⟨g, o, none⟩) (k + 1) c from by rw [HK.out.1]] at this
                refine Calls.mono this ?_
                rintro x w' ⟨A', c', rfl, h2, h3, h4⟩
                refine ⟨A', c', by rw [hna]; rfl, h2, h3, ?_⟩
                rcases h4 with ⟨_, _, h4⟩ | h4
                · cases h4
                · exact h4
              have HCA := Lib.hid (And.intro hcall (And.intro he (And.intro hna (And.intro hWV hbV))))
              clear hcall he hna hWV hbV hnV hch hE hn hm1 hce HC
              go_upto_region 9 with (go_at_call 55; refine (hT1 _).mono ?_; rintro e w2 ⟨rfl, hw⟩; have hw := hw.symm; subst hw)
              go_wp2_with (go_at_call 56; rw [← hV]; with_reducible refine HCA.out.1.mono ?_; rintro e w2 ⟨A2, c2, rfl, h2, hb2, hf2⟩; have r2 := heap_keep (heap_keep HW.out.2 HCA.out.2.2.2.2) hb2; replace z0 := one_at r2; replace zf := frozen_at r2 0; have H2 := Lib.hid (And.intro h2 (And.intro hb2 (And.intro hf2 r2))); clear h2 hb2 hf2 r2)
              refine bodyPost_ret (results_row2 rfl _ _ (W.heap.size + 1) 24 #[.slice A2 na c2] (0, 0) _ rfl (Boxed.set _ H2.out.2.2.2) Tryd.underlying24 series_sz) rfl ?_
              have hb5 : Below W.heap.size W (w2.setCell ⟨W.heap.size + 1, 0, none⟩ (.slice A2 na c2)) := (HCA.out.2.2.2.1.trans (H2.out.2.1.mono HCA.out.2.2.2.1.size)).setCell (Nat.le_succ _) _
              have hVs : W.heap.size + 1 < V.heap.size := Nat.lt_of_lt_of_le (lt_of_heap HW.out.2) HCA.out.2.2.2.2.size
              refine ⟨A2, c2, by rw [HCA.out.2.1, HCA.out.2.2.1]; rfl, ?_, hb5⟩
              rw [HCA.out.2.1]
              exact sat_far H2.out.1 (fun a ha => by have := H2.out.2.2.1 a ha; omega) _
  · have hne : (er == 0) = false := by simpa using hc
    have hce : chkE L u most = er := by unfold chkE; rw [if_pos (by rw [← HER.out]; exact hc), HER.out]
    have HCE := Lib.hid (And.intro hce hc)
    clear hce
    go_wp2_with (go_at_call 55; refine (timeR_ok _ _).mono ?_; rintro e w2 ⟨rfl, hw⟩; have hw := hw.symm; subst hw)
    refine bodyPost_ret (results_row2 rfl _ _ (W.heap.size + 1) 24 #[.slice none 0 0] (0, 0) _ rfl (Boxed.set _ HW.out.2) Tryd.underlying24 series_sz) rfl ?_
    exact evr_err HCE.out.1 HCE.out.2 (HW.out.1.setCell (Nat.le_succ _) _)
end Sx
end Go.Proofs.YtionocafkaemiaaDoor
