/- Plain: at most so many pages wait; which gaps are kept. Plain: the steps one by one, as the program goes. Plain: all sets of gaps that are worth keeping. Plain: the program's search of the best set. -/
import Derived.Test.YtnkkhbmbbkmfhaaK2
import Derived.Test.YtnkkhbmbbkmfhaaK1
namespace Go.Proofs.Ytnkkhbmbbkmfhaa.Py

instance : DecidableEq PU := fun a b => decidable_of_iff (a.p = b.p ∧ a.f = b.f ∧ a.t = b.t) ⟨fun h => pu_ext h.1 h.2.1 h.2.2, fun h => by subst h; exact ⟨rfl, rfl, rfl⟩⟩
theorem nodup_len {α : Type} [DecidableEq α] : ∀ {l l' : List α}, l.Nodup → (∀ x, x ∈ l → x ∈ l') → l.length ≤ l'.length
  | [], _, _, _ => Nat.zero_le _
  | x :: l, l', hn, hs => by
    obtain ⟨h1, h2⟩ := List.nodup_cons.1 hn
    have hx := hs x (List.mem_cons_self ..)
    have ih := nodup_len (l := l) (l' := l'.erase x) h2 fun y hy => by
      have hne : y ≠ x := fun e => h1 (e ▸ hy)
      exact (List.mem_erase_of_ne hne).2 (hs y (List.mem_cons_of_mem _ hy))
    rw [List.length_erase_of_mem hx] at ih
    have := List.length_pos_of_mem hx
    rw [List.length_cons]; omega
def kc (h w : Int) (K : List PU) (g : PU) : Int := if g ∈ K then (g.t - g.f) * h else w
def cntG (K : List PU) (σ : Int) : Nat := K.countP fun g => decide (g.f ≤ σ) && decide (σ < g.t)
def cntW (q : List Wt) (σ : Int) : Nat := q.countP fun x => decide (x.s ≤ σ)
theorem mem_rawF {g : PU} : ∀ {V : List PU} {m : Mp}, g ∈ rawF m V → ∃ v, v ∈ V ∧ v.p = g.p ∧ v.f = g.t
  | [], _, h => (List.not_mem_nil h).elim
  | u :: V, m, h => by
    rcases List.mem_append.1 (show g ∈ gapM m u ++ rawF _ V from h) with h1 | h1
    · unfold gapM at h1
      split at h1
      · rw [List.mem_singleton] at h1
        subst h1
        exact ⟨u, List.mem_cons_self .., rfl, rfl⟩
      · cases h1
    · obtain ⟨v, hv, e⟩ := mem_rawF h1
      exact ⟨v, List.mem_cons_of_mem _ hv, e⟩
theorem raw_new {V : List PU} {u : PU} (hg : Good (V ++ [u])) (s : Int) : (⟨u.p, s, u.f⟩ : PU) ∉ rawF no V := fun h => by
  obtain ⟨v, hv, h1, h2⟩ := mem_rawF h
  have h3 := (((good_snoc V u).1 hg).2 v hv).1
  have h1 : v.p = u.p := h1
  have h2 : v.f = u.f := h2
  omega
theorem cntW_out {p : Int} {q : List Wt} {x : Wt} (hd : PD q) (h : findW p q = some x) (σ : Int) : cntW q σ = cntW (delW p q) σ + if x.s ≤ σ then 1 else 0 := by
  obtain ⟨h1, h2⟩ := findW_some h
  obtain ⟨k, hk⟩ := List.getElem?_of_mem h1
  have e := erase_perm hk
  rw [del_at hd hk h2] at e
  unfold cntW
  rw [e.countP_eq, List.countP_cons]
  simp

structure AC (L : List PU) (h w : Int) (lim : Nat) (τ : Int) (V K : List PU) (st : PS) : Prop where
  sub : ∀ g, g ∈ K → g ∈ rawF no V
  nd : K.Nodup
  rnd : (rawF no V).Nodup
  n : (firstsF no V : Int) * w + ((rawF no V).map (kc h w K)).sum ≤ st.1
  q : ∀ x, x ∈ st.2 → lastF no V x.p = some x.s
  pd : PD st.2
  cnt : ∀ u, u ∈ L → u.t ≤ τ → cntG K u.t + cntW st.2 u.t ≤ lim
theorem sum_app {f : PU → Int} {a b : List PU} : ((a ++ b).map f).sum = (a.map f).sum + (b.map f).sum := by rw [List.map_append, List.sum_append]
theorem nodup_snoc {l : List PU} {x : PU} (h : l.Nodup) (hx : x ∉ l) : (l ++ [x]).Nodup := by
  rw [List.nodup_append]
  exact ⟨h, by simp, fun a ha b hb e => by rw [List.mem_singleton] at hb; subst hb; subst e; exact hx ha⟩
theorem AC.bg {L : List PU} {h w : Int} {lim : Nat} {τ : Int} {V K : List PU} {st : PS} (H : AC L h w lim τ V K st) {u : PU} (hτ : τ < u.f) (hg : Good (V ++ [u])) : ∃ K', AC L h w lim τ (V ++ [u]) K' (Py.bg h w st u.f u.p) := by
  have hq : ∀ x, x ∈ (Py.bg h w st u.f u.p).2 → lastF no (V ++ [u]) x.p = some x.s := fun x hx => by
    obtain ⟨h1, h2⟩ := mem_delW.1 (show x ∈ delW u.p st.2 from hx)
    rw [lastF_add]
    unfold upd
    rw [if_neg h2]; exact H.q x h1
  have hpd : PD (Py.bg h w st u.f u.p).2 := H.pd.sublist List.filter_sublist
  have hrnd : (rawF no (V ++ [u])).Nodup := by
    rw [rawF_add]
    unfold gapM
    split
    · exact nodup_snoc H.rnd (raw_new hg _)
    · rw [List.append_nil]; exact H.rnd
  cases e : findW u.p st.2 with
  | none =>
    refine ⟨K, fun g hgk => by rw [rawF_add]; exact List.mem_append_left _ (H.sub g hgk), H.nd, hrnd, ?_, hq, hpd, fun v hv hvt => ?_⟩
    · rw [firstsF_add, rawF_add, sum_app]
      show _ ≤ st.1 + bgC h w u.f (findW u.p st.2)
      rw [e]
      show _ ≤ st.1 + w
      have := H.n
      unfold gapM
      cases e2 : lastF no V u.p with
      | none =>
        rw [if_pos rfl, Int.natCast_add, Int.add_mul]
        simp
        omega
      | some s =>
        rw [if_neg (by simp)]
        have hk : kc h w K ⟨u.p, s, u.f⟩ = w := by
          unfold kc
          rw [if_neg fun hc => raw_new hg s (H.sub _ hc)]
        simp [hk]
        omega
    · show cntG K v.t + cntW (delW u.p st.2) v.t ≤ lim
      rw [del_none e]; exact H.cnt v hv hvt
  | some x =>
    obtain ⟨h1, h2⟩ := findW_some e
    have hs := H.q x h1
    rw [h2] at hs
    have hnew := raw_new hg x.s
    have hgap : gapM (lastF no V) u = [⟨u.p, x.s, u.f⟩] := by unfold gapM; rw [hs]
    refine ⟨K ++ [⟨u.p, x.s, u.f⟩], fun g hgk => ?_, nodup_snoc H.nd fun hc => hnew (H.sub _ hc), hrnd, ?_, hq, hpd, fun v hv hvt => ?_⟩
    · rw [rawF_add, hgap]
      rcases List.mem_append.1 hgk with h3 | h3
      · exact List.mem_append_left _ (H.sub g h3)
      · exact List.mem_append_right _ h3
    · rw [firstsF_add, rawF_add, sum_app, hgap, hs, if_neg (by simp)]
      show _ ≤ st.1 + bgC h w u.f (findW u.p st.2)
      rw [e]
      show _ ≤ st.1 + (u.f - x.s) * h
      have hsame : (rawF no V).map (kc h w (K ++ [⟨u.p, x.s, u.f⟩])) = (rawF no V).map (kc h w K) := by
        apply List.map_congr_left
        intro g hgr
        unfold kc
        have hne : g ≠ ⟨u.p, x.s, u.f⟩ := fun e => hnew (e ▸ hgr)
        by_cases hgk : g ∈ K
        · rw [if_pos hgk, if_pos (List.mem_append_left _ hgk)]
        · rw [if_neg hgk, if_neg]
          intro hc
          rcases List.mem_append.1 hc with h3 | h3
          · exact hgk h3
          · exact hne (List.mem_singleton.1 h3)
      have hk : kc h w (K ++ [⟨u.p, x.s, u.f⟩]) ⟨u.p, x.s, u.f⟩ = (u.f - x.s) * h := by unfold kc; rw [if_pos (by simp)]
      rw [hsame]
      have := H.n
      simp [hk]
      omega
    · show cntG _ v.t + cntW (delW u.p st.2) v.t ≤ lim
      have h4 := H.cnt v hv hvt
      rw [cntW_out H.pd e] at h4
      unfold cntG at *
      rw [List.countP_append, List.countP_singleton]
      have h5 : (decide (x.s ≤ v.t) && decide (v.t < u.f)) = decide (x.s ≤ v.t) := by
        rw [decide_eq_true (show v.t < u.f by omega), Bool.and_true]
      dsimp only
      rw [h5]
      simp only [decide_eq_true_eq]
      omega
theorem AC.beg {L : List PU} {h w : Int} {lim : Nat} {τ t : Int} (hlt : τ < t) : ∀ (B V K : List PU) (st : PS), AC L h w lim τ V K st → (∀ u, u ∈ B → u.f = t) → Good (V ++ B) → ∃ K', AC L h w lim τ (V ++ B) K' (Py.beg h w (B.map bgS) st)
  | [], V, K, st, H, _, _ => ⟨K, by rw [List.append_nil]; exact H⟩
  | u :: B, V, K, st, H, hB, hg => by
    have hf := hB u (List.mem_cons_self ..)
    have e : V ++ u :: B = (V ++ [u]) ++ B := by simp
    rw [e] at hg ⊢
    obtain ⟨K', H'⟩ := H.bg (by omega) (List.Pairwise.sublist (List.sublist_append_left _ _) hg)
    exact AC.beg hlt B (V ++ [u]) K' _ H' (fun v hv => hB v (List.mem_cons_of_mem _ hv)) hg
theorem sum_nn {α : Type} {f : α → Int} : ∀ {l : List α}, (∀ x, x ∈ l → 0 ≤ f x) → 0 ≤ (l.map f).sum
  | [], _ => Int.le_refl _
  | x :: l, h => by
    rw [List.map_cons, List.sum_cons]
    have h1 := h x (List.mem_cons_self ..)
    have h2 := sum_nn fun y hy => h y (List.mem_cons_of_mem _ hy)
    omega
theorem kept_map {h w : Int} {G K : List PU} (hn : G.Nodup) : ∀ k, k ≤ G.length → keptS h w G ((List.range G.length).filter fun i => decide (use G i ∈ K)) k = ((G.take k).map (kc h w K)).sum
  | 0, _ => by simp [keptS]
  | k + 1, hk => by
    have ih := kept_map (h := h) (w := w) (K := K) hn k (by omega)
    rw [take_next (use_get (show k < G.length by omega)), sum_add1, ← ih]
    show _ + _ = _ + _
    congr 1
    unfold kc
    have hm : (k ∈ (List.range G.length).filter fun i => decide (use G i ∈ K)) ↔ use G k ∈ K := by
      rw [List.mem_filter, List.mem_range]; simp; omega
    by_cases e : use G k ∈ K
    · rw [if_pos (hm.2 e), if_pos e]
    · rw [if_neg fun hc => e (hm.1 hc), if_neg e]
theorem many_cnt {G K : List PU} (hn : G.Nodup) (t : Int) : many G ((List.range G.length).filter fun i => decide (use G i ∈ K)) t ≤ cntG K t := by
  unfold many cntG
  rw [List.countP_eq_length_filter, List.countP_eq_length_filter, List.filter_filter, ← List.length_map (f := use G)]
  refine nodup_len ?_ fun x hx => ?_
  · rw [List.Nodup, List.pairwise_map]
    refine List.Pairwise.imp_of_mem (fun {i j} hi hj hij => ?_) (List.Pairwise.filter _ List.pairwise_lt_range)
    have hj' := List.mem_range.1 (List.mem_filter.1 hj).1
    have hi' := List.mem_range.1 (List.mem_filter.1 hi).1
    have := (List.pairwise_iff_getElem.1 hn) i j hi' hj' hij
    have e1 : use G i = G[i] := by unfold use; rw [List.getD_eq_getElem?_getD, List.getElem?_eq_getElem hi']; rfl
    have e2 : use G j = G[j] := by unfold use; rw [List.getD_eq_getElem?_getD, List.getElem?_eq_getElem hj']; rfl
    rw [e1, e2]; exact this
  · obtain ⟨i, hi, rfl⟩ := List.mem_map.1 hx
    have := (List.mem_filter.1 hi).2
    simp only [Bool.and_eq_true, decide_eq_true_eq] at this
    refine List.mem_filter.2 ⟨this.2, ?_⟩
    simp only [Bool.and_eq_true, decide_eq_true_eq]
    exact this.1
theorem most_keeps {L : List PU} {S : List St} (hL : OkL L) (hS : IsS L S) {h w : Int} (hc : OkC h w) (lim : Nat) : ∃ K : List Nat, Asc K ∧ (∀ k, k ∈ K → k < (gapsV L).length) ∧ fitV (gapsV L) K lim = true ∧ keptV L h w K ≤ mostV L S h w lim := by
  have hh := hc.h0
  obtain ⟨τ, hle, ⟨K, H⟩, I⟩ := tick_ind hL hS h w lim (fun τ st => ∃ K, AC L h w lim τ (begun L τ) K st) ⟨[], by
    rw [begun_none hL]
    exact ⟨fun g hg => (List.not_mem_nil hg).elim, List.nodup_nil, List.nodup_nil, by simp [firstsF, rawF], fun x hx => (List.not_mem_nil hx).elim, .nil, fun u hu hut => by
      have := (hL.ok u hu).f0; have := (hL.ok u hu).ft; omega⟩⟩ (by
    rintro τ t st hlt hno I ⟨K, H⟩
    have hb := begun_split hlt (good_f hL.good) (steps_f hS hno)
    have hgt : Good (begun L t) := List.Pairwise.filter _ hL.good
    obtain ⟨K', H'⟩ : ∃ K', AC L h w lim τ (begun L t) K' (Py.beg h w (Bt S t) st) := by
      rw [Bt_is hL hS, hb]
      refine AC.beg hlt (begun1 L t) (begun L τ) K st H (fun u hu => ?_) (by rw [← hb]; exact hgt)
      simpa using (List.mem_filter.1 hu).2
    refine ⟨K', ?_⟩
    obtain ⟨I2, pd, _⟩ := I.tick hL hS h w hlt hno
    have hsrc : ∀ x, x ∈ (en (Et S t) (Py.beg h w (Bt S t) st)).2 → x.s ≤ t ∧ lastF no (begun L t) x.p = some x.s := fun x hx => by
      rcases List.mem_append.1 hx with h1 | h1
      · have h2 := (I.from_ x ((beg_sub h w _ st).subset h1)).1
        exact ⟨by omega, H'.q x h1⟩
      · obtain ⟨s, hs, rfl⟩ := List.mem_map.1 h1
        obtain ⟨u, hu, hut, rfl⟩ := (Et_mem hS).1 hs
        refine ⟨by show u.t ≤ t; omega, ?_⟩
        have hm : u ∈ begun L t := List.mem_filter.2 ⟨hu, by have := (hL.ok u hu).ft; simp; omega⟩
        refine last_is (fun v hv => hL.ok v (List.mem_filter.1 hv).1) hgt hm fun v hv => ?_
        have := (List.mem_filter.1 hv).2
        simp at this
        omega
    have hcnt : ∀ u, u ∈ L → u.t ≤ τ → cntG K' u.t + cntW (en (Et S t) (Py.beg h w (Bt S t) st)).2 u.t ≤ lim := fun u hu hut => by
      have h1 := H'.cnt u hu hut
      show cntG K' u.t + cntW ((Py.beg h w (Bt S t) st).2 ++ _) u.t ≤ lim
      unfold cntW at *
      rw [List.countP_append]
      have h2 : List.countP (fun x : Wt => decide (x.s ≤ u.t)) ((Et S t).map fun s : St => (⟨s.a, s.p⟩ : Wt)) = 0 := by
        rw [List.countP_eq_zero]
        intro x hx
        obtain ⟨s, hs, rfl⟩ := List.mem_map.1 hx
        obtain ⟨v, hv, hvt, rfl⟩ := (Et_mem hS).1 hs
        show ¬ (decide (v.t ≤ u.t) = true)
        simp; omega
      omega
    have hn' : (firstsF no (begun L t) : Int) * w + ((rawF no (begun L t)).map (kc h w K')).sum ≤ (en (Et S t) (Py.beg h w (Bt S t) st)).1 := H'.n
    have hlen := I2.len
    unfold tickP at hlen ⊢
    generalize en (Et S t) (Py.beg h w (Bt S t) st) = st1 at *
    refine ⟨H'.sub, H'.nd, H'.rnd, ?_, fun x hx => (hsrc x (List.mem_of_mem_drop hx)).2, pd.sublist (List.drop_sublist _ _), fun u hu hut => ?_⟩
    · show _ ≤ st1.1 + _
      have := sum_nn (f := fun x : Wt => (t - x.s) * h) (l := st1.2.take (st1.2.length - lim)) fun x hx => Int.mul_nonneg (by have := (hsrc x (List.mem_of_mem_take hx)).1; omega) hh
      omega
    · by_cases e : u.t ≤ τ
      · have h1 := hcnt u hu e
        have h2 : cntW (popN lim h t st1).2 u.t ≤ cntW st1.2 u.t := List.Sublist.countP_le (List.drop_sublist _ _)
        omega
      · have e2 : u.t = t := by have := steps_t hS hno u hu; omega
        have h1 : cntG K' u.t = 0 := by
          unfold cntG
          rw [List.countP_eq_zero]
          intro g hg
          obtain ⟨v, hv, _, h3⟩ := mem_rawF (H'.sub g hg)
          have := (List.mem_filter.1 hv).2
          simp at this ⊢
          omega
        have h2 : cntW (popN lim h t st1).2 u.t ≤ (popN lim h t st1).2.length := List.countP_le_length
        omega)
  rw [begun_all hL hle] at H
  have hperm : (gapsV L).Perm (rawF no L) := (gapsV_perm L).trans (raw_ref L).symm
  have hnd : (gapsV L).Nodup := hperm.nodup_iff.2 H.rnd
  refine ⟨(List.range (gapsV L).length).filter fun i => decide (use (gapsV L) i ∈ K), List.Pairwise.filter _ List.pairwise_lt_range, fun k hk => List.mem_range.1 (List.mem_filter.1 hk).1, ?_, ?_⟩
  · unfold fitV
    rw [List.all_eq_true]
    intro i hi
    have hi' := List.mem_range.1 (List.mem_filter.1 hi).1
    obtain ⟨u, v, hu, hv, _, _, e, _⟩ := mem_refRaw ((gapsV_perm L).mem_iff.1 (use_mem hi'))
    rw [decide_eq_true_eq, e]
    have h1 := many_cnt (K := K) hnd u.t
    have h2 := H.cnt u hu (by have := endV_ge hu; omega)
    omega
  · have h1 := kept_map (h := h) (w := w) (K := K) hnd _ (Nat.le_refl _)
    rw [List.take_length] at h1
    unfold keptV mostV
    rw [h1, perm_sum _ hperm]
    have h2 := H.n
    have h3 : 0 ≤ restS h (endV L) (runP h w lim S (0, [])).2 := sum_nn fun x hx => Int.mul_nonneg (by
      obtain ⟨_, u, hu, _, e⟩ := I.from_ x hx
      have := endV_ge hu; omega) hh
    have h4 : (firsts L : Int) * w + ((rawF no L).map (kc h w K)).sum ≤ (runP h w lim S (0, [])).1 := h2
    generalize ((rawF no L).map (kc h w K)).sum = a at *
    generalize (runP h w lim S (0, [])).1 = b at *
    generalize (firsts L : Int) * w = c at *
    omega
end Go.Proofs.Ytnkkhbmbbkmfhaa.Py
namespace Go.Proofs.Ytnkkhbmbbkmfhaa.Py

structure MQ (L : List PU) (S : List St) (h w : Int) (lim i : Nat) (st : PS) : Prop where
  run : runP h w lim (S.drop i) st = runP h w lim S (0, [])
  nn : 0 ≤ st.1
  bd : st.1 + (st.2.length : Int) * 1000000000000 ≤ (i : Int) * 1001000000000
  at0 : ∀ x, x ∈ st.2 → 0 ≤ x.s ∧ x.s ≤ endV L
  at_ : ∀ x, x ∈ st.2 → ∀ s, s ∈ S.drop i → x.s ≤ s.a
  len : st.2.length ≤ i
  pd : PD st.2
  idle : ∀ x, x ∈ st.2 → ∀ u, u ∈ L → u.p = x.p → enS u ∈ S.drop i → bgS u ∈ S.drop i
theorem MQ.start (L : List PU) (S : List St) (h w : Int) (lim : Nat) : MQ L S h w lim 0 (0, []) :=
  ⟨by rw [List.drop_zero], Int.le_refl _, by simp, fun x hx => (List.not_mem_nil hx).elim, fun x hx => (List.not_mem_nil hx).elim, Nat.le_refl _, .nil, fun x hx => (List.not_mem_nil hx).elim⟩
theorem step_bd {L : List PU} {S : List St} (hL : OkL L) (hS : IsS L S) {s : St} (hs : s ∈ S) : 0 ≤ s.a ∧ s.a ≤ endV L := by
  obtain ⟨u, hu, rfl | rfl⟩ := mem_rawS.1 (hS.perm.mem_iff.1 hs)
  · have := (hL.ok u hu).f0; have := (hL.ok u hu).ft; have := endV_ge hu
    show 0 ≤ u.f ∧ u.f ≤ _
    omega
  · have := (hL.ok u hu).f0; have := (hL.ok u hu).ft; have := endV_ge hu
    show 0 ≤ u.t ∧ u.t ≤ _
    omega
theorem drop_mem {S : List St} {i : Nat} {s x : St} (hs : S[i]? = some s) : x ∈ S.drop i ↔ x = s ∨ x ∈ S.drop (i + 1) := by
  rw [drop_next hs, List.mem_cons]
theorem slt_le {x y : St} (h : slt x y) : x.a ≤ y.a := by unfold slt at h; omega
theorem S_later {L : List PU} {S : List St} (hS : IsS L S) {i : Nat} {s x : St} (hs : S[i]? = some s) (hx : x ∈ S.drop (i + 1)) : slt s x := by
  have h1 : (S.drop i).Pairwise slt := hS.sort.sublist (List.drop_sublist _ _)
  rw [drop_next hs] at h1
  exact (List.pairwise_cons.1 h1).1 x hx
theorem popN_step {lim : Nat} (h t n : Int) {x : Wt} {q : List Wt} (hl : lim < (x :: q).length) : popN lim h t (n, x :: q) = popN lim h t (n + (t - x.s) * h, q) := by
  unfold popN
  have e2 : (x :: q).length - lim = (q.length - lim) + 1 := by simp only [List.length_cons] at *; omega
  dsimp only
  rw [e2, List.take_succ_cons, List.drop_succ_cons, List.map_cons, List.sum_cons, Int.add_assoc]
/-- A use begins. -/
theorem MQ.beg {L : List PU} {S : List St} {h w : Int} {lim i : Nat} {st : PS} (H : MQ L S h w lim i st) (hL : OkL L) (hS : IsS L S) (hc : OkC h w) {s : St} (hs : S[i]? = some s) (hb : s.b = true) : MQ L S h w lim (i + 1) (Py.bg h w st s.a s.p) := by
  have hm := List.mem_of_getElem? hs
  have hbd := step_bd hL hS hm
  have he := endV_le hL.ok
  have h1 := H.nn; have h2 := H.bd
  have w0 := hc.w0; have w1 := hc.w1
  have hsub : ∀ x, x ∈ (Py.bg h w st s.a s.p).2 → x ∈ st.2 ∧ x.p ≠ s.p := fun x hx => mem_delW.1 (show x ∈ delW s.p st.2 from hx)
  have hnum : 0 ≤ (Py.bg h w st s.a s.p).1 ∧ (Py.bg h w st s.a s.p).1 + ((Py.bg h w st s.a s.p).2.length : Int) * 1000000000000 ≤ ((i + 1 : Nat) : Int) * 1001000000000 := by
    unfold Py.bg
    cases e : findW s.p st.2 with
    | none =>
      rw [del_none e]
      show 0 ≤ st.1 + w ∧ st.1 + w + (st.2.length : Int) * _ ≤ _
      omega
    | some x =>
      have hx := H.at0 x (findW_some e).1
      have hx2 := H.at_ x (findW_some e).1 s ((drop_mem hs).2 (.inl rfl))
      have hb := hold_bd hc hx.1 hx2 (by omega)
      have hl := delW_lt e
      show 0 ≤ st.1 + (s.a - x.s) * h ∧ st.1 + (s.a - x.s) * h + ((delW s.p st.2).length : Int) * _ ≤ _
      omega
  refine ⟨?_, hnum.1, hnum.2, fun x hx => H.at0 x (hsub x hx).1, fun x hx y hy => H.at_ x (hsub x hx).1 y ((drop_mem hs).2 (.inr hy)), ?_, H.pd.sublist List.filter_sublist, fun x hx u hu hp he => ?_⟩
  · rw [← H.run, drop_next hs]
    show _ = runP h w lim (S.drop (i + 1)) (stepP h w lim st s _)
    unfold stepP
    rw [if_pos hb]
  · have : (delW s.p st.2).length ≤ st.2.length := List.length_filter_le _ _
    have := H.len
    show (delW s.p st.2).length ≤ i + 1
    omega
  · obtain ⟨h3, h4⟩ := hsub x hx
    rcases (drop_mem hs).1 (H.idle x h3 u hu hp ((drop_mem hs).2 (.inr he))) with h5 | h5
    · exfalso
      rw [← h5] at h4
      exact h4 hp.symm
    · exact h5
/-- A use ends. -/
theorem MQ.en {L : List PU} {S : List St} {h w : Int} {lim i : Nat} {st : PS} (H : MQ L S h w lim i st) (hL : OkL L) (hS : IsS L S) {s : St} (hs : S[i]? = some s) (hb : s.b = false) {st' : PS} (hst : st' = stepP h w lim st s (isLast s.a (S.drop (i + 1)))) (hn : 0 ≤ st'.1) (hbd : st'.1 + (st'.2.length : Int) * 1000000000000 ≤ ((i + 1 : Nat) : Int) * 1001000000000) : MQ L S h w lim (i + 1) st' := by
  have hm := List.mem_of_getElem? hs
  have hab := step_bd hL hS hm
  have h1 := H.nn; have h2 := H.bd
  obtain ⟨u, hu, hsu⟩ : ∃ u, u ∈ L ∧ s = enS u := by
    obtain ⟨u, hu, rfl | rfl⟩ := mem_rawS.1 (hS.perm.mem_iff.1 hm)
    · cases hb
    · exact ⟨u, hu, rfl⟩
  have hout : ∀ y, y ∈ st.2 → y.p ≠ s.p := fun y hy hp => by
    have h3 := H.idle y hy u hu (by rw [hp, hsu]; rfl) (by rw [← hsu]; exact (drop_mem hs).2 (.inl rfl))
    rcases (drop_mem hs).1 h3 with h4 | h4
    · rw [hsu] at h4; injection h4 with _ h4; cases h4
    · have h5 := slt_le (S_later hS hs h4)
      rw [hsu] at h5
      have h5 : u.t ≤ u.f := h5
      have := (hL.ok u hu).ft
      omega
  have hpd : PD (st.2 ++ [⟨s.a, s.p⟩]) := by
    show List.Pairwise _ _
    rw [List.pairwise_append]
    exact ⟨H.pd, List.pairwise_singleton _ _, fun x hx y hy => by rw [List.mem_singleton.1 hy]; exact hout x hx⟩
  have hidle : ∀ x, x ∈ st.2 ++ [(⟨s.a, s.p⟩ : Wt)] → ∀ v, v ∈ L → v.p = x.p → enS v ∈ S.drop (i + 1) → bgS v ∈ S.drop (i + 1) := fun x hx v hv hp he => by
    rcases List.mem_append.1 hx with hx | hx
    · rcases (drop_mem hs).1 (H.idle x hx v hv hp ((drop_mem hs).2 (.inr he))) with h5 | h5
      · rw [hsu] at h5; injection h5 with _ h5; cases h5
      · exact h5
    · rw [List.mem_singleton.1 hx] at hp
      have hp : v.p = u.p := by rw [hp, hsu]; rfl
      have h3 := S_later hS hs he
      rw [hsu] at h3
      have hlt : u.t < v.t := by
        unfold slt enS at h3
        dsimp only at h3
        rcases h3 with h3 | ⟨_, h3 | h3⟩
        · exact h3
        · cases h3.1
        · omega
      have hvS : bgS v ∈ S := hS.perm.mem_iff.2 (mem_rawS.2 ⟨v, hv, .inl rfl⟩)
      rw [← List.take_append_drop (i + 1) S] at hvS
      rcases List.mem_append.1 hvS with h4 | h4
      · exfalso
        rw [take_next hs] at h4
        rcases List.mem_append.1 h4 with h5 | h5
        · have hsort := hS.sort
          rw [← List.take_append_drop i S, List.pairwise_append] at hsort
          have h6 := slt_le (hsort.2.2 _ h5 s ((drop_mem hs).2 (.inl rfl)))
          rw [hsu] at h6
          have h6 : v.f ≤ u.t := h6
          obtain ⟨i1, hi1, e1⟩ := List.mem_iff_getElem.1 hu
          obtain ⟨i2, hi2, e2⟩ := List.mem_iff_getElem.1 hv
          have hft := (hL.ok u hu).ft
          rcases Nat.lt_trichotomy i1 i2 with h7 | h7 | h7
          · have := ((List.pairwise_iff_getElem.1 hL.good) i1 i2 hi1 hi2 h7).2 (by rw [e1, e2, hp])
            rw [e1, e2] at this; omega
          · subst h7
            rw [e1] at e2; subst e2; omega
          · have := ((List.pairwise_iff_getElem.1 hL.good) i2 i1 hi2 hi1 h7).2 (by rw [e1, e2, hp])
            rw [e1, e2] at this; omega
        · rw [List.mem_singleton, hsu] at h5
          injection h5 with _ h5; cases h5
      · exact h4
  have hsub : st'.2.Sublist (st.2 ++ [⟨s.a, s.p⟩]) := by
    rw [hst]
    unfold stepP
    rw [if_neg (by rw [hb]; simp)]
    split
    · exact List.drop_sublist _ _
    · exact List.Sublist.refl _
  refine ⟨?_, hn, hbd, fun x hx => ?_, fun x hx y hy => ?_, ?_, hpd.sublist hsub, fun x hx => hidle x (hsub.subset hx)⟩
  · rw [← H.run, drop_next hs, hst]; rfl
  · rcases List.mem_append.1 (hsub.subset hx) with h3 | h3
    · exact H.at0 x h3
    · rw [List.mem_singleton.1 h3]; exact hab
  · rcases List.mem_append.1 (hsub.subset hx) with h3 | h3
    · exact H.at_ x h3 y ((drop_mem hs).2 (.inr hy))
    · rw [List.mem_singleton.1 h3]
      exact slt_le (S_later hS hs hy)
  · have h3 := hsub.length_le
    rw [List.length_append, List.length_singleton] at h3
    have := H.len
    omega
/-- What the loop that gives pages back keeps. -/
structure PopI (lim : Nat) (h a : Int) (last : Bool) (B : Int) (tgt st : PS) : Prop where
  go : (if last then popN lim h a st else st) = tgt
  nn : 0 ≤ st.1
  bd : st.1 + (st.2.length : Int) * 1000000000000 ≤ B
  at_ : ∀ x, x ∈ st.2 → 0 ≤ x.s ∧ x.s ≤ a
theorem PopI.pop {lim : Nat} {h a w : Int} {B n : Int} {x : Wt} {q : List Wt} {tgt : PS} (H : PopI lim h a true B tgt (n, x :: q)) (hc : OkC h w) (ha : a ≤ 1000000000) (hl : lim < (x :: q).length) : PopI lim h a true B tgt (n + (a - x.s) * h, q) ∧ 0 ≤ (a - x.s) * h ∧ (a - x.s) * h ≤ 1000000000000 := by
  have hx := H.at_ x (List.mem_cons_self ..)
  have hb := hold_bd hc hx.1 hx.2 ha
  have h1 := H.nn; have h2 := H.bd
  dsimp only [List.length_cons] at h1 h2
  refine ⟨⟨?_, by dsimp only; omega, by dsimp only; omega, fun y hy => H.at_ y (List.mem_cons_of_mem _ hy)⟩, hb⟩
  have := H.go
  rw [if_pos rfl, popN_step h a n hl] at this
  rw [if_pos rfl]; exact this
theorem PopI.done {lim : Nat} {h a : Int} {last : Bool} {B : Int} {tgt st : PS} (H : PopI lim h a last B tgt st) (hl : last = true → st.2.length ≤ lim) : st = tgt := by
  have := H.go
  cases last with
  | false => exact this
  | true => rw [if_pos rfl, popN_id h a (hl rfl)] at this; exact this
theorem MQ.push {L : List PU} {S : List St} {h w : Int} {lim i : Nat} {n : Int} {q : List Wt} (H : MQ L S h w lim i (n, q)) (hL : OkL L) (hS : IsS L S) {s : St} (hs : S[i]? = some s) (hb : s.b = false) : PopI lim h s.a (isLast s.a (S.drop (i + 1))) (((i + 1 : Nat) : Int) * 1001000000000) (stepP h w lim (n, q) s (isLast s.a (S.drop (i + 1)))) (n, q ++ [⟨s.a, s.p⟩]) := by
  have hab := step_bd hL hS (List.mem_of_getElem? hs)
  have h1 := H.nn; have h2 := H.bd
  dsimp only at h1 h2
  refine ⟨?_, h1, by simp only [List.length_append, List.length_cons, List.length_nil]; omega, fun x hx => ?_⟩
  · have e : ∀ l : Bool, stepP h w lim (n, q) s l = if l then popN lim h s.a (n, q ++ [⟨s.a, s.p⟩]) else (n, q ++ [⟨s.a, s.p⟩]) := fun l => by unfold stepP; rw [if_neg (by rw [hb]; simp)]
    rw [e]
  · rcases List.mem_append.1 hx with h3 | h3
    · exact ⟨(H.at0 x h3).1, H.at_ x h3 s ((drop_mem hs).2 (.inl rfl))⟩
    · rw [List.mem_singleton.1 h3]; exact ⟨hab.1, Int.le_refl _⟩
theorem MQ.fin {L : List PU} {S : List St} {h w : Int} {lim : Nat} {st : PS} (H : MQ L S h w lim S.length st) : st.1 + restS h (endV L) st.2 = mostV L S h w lim := by
  have := H.run
  rw [List.drop_length] at this
  have e : st = runP h w lim S (0, []) := this
  unfold mostV; rw [← e]
end Go.Proofs.Ytnkkhbmbbkmfhaa.Py
namespace Go.Proofs.Ytnkkhbmbbkmfhaa.Py

def bitS (s k : Nat) : Bool := decide (s / 2 ^ k % 2 = 1)
def selW (W : List Nat) (s : Nat) : Nat → List Nat
  | 0 => []
  | k + 1 => selW W s k ++ if bitS s k then [W.getD k 0] else []
theorem selW_mem {W : List Nat} {s : Nat} : ∀ {k : Nat}, k ≤ W.length → ∀ {x : Nat}, x ∈ selW W s k → ∃ j, j < k ∧ bitS s j = true ∧ W[j]? = some x
  | 0, _, x, h => by cases h
  | k + 1, hk, x, h => by
    rcases List.mem_append.1 (show x ∈ selW W s k ++ if bitS s k then [W.getD k 0] else [] from h) with h1 | h1
    · obtain ⟨j, a, b, c⟩ := selW_mem (by omega) h1
      exact ⟨j, by omega, b, c⟩
    · split at h1
      · next e =>
        rw [List.mem_singleton] at h1
        exact ⟨k, by omega, e, by rw [h1]; exact (by rw [List.getD_eq_getElem?_getD, List.getElem?_eq_getElem (show k < W.length by omega)]; rfl)⟩
      · cases h1
theorem selW_len (W : List Nat) (s : Nat) : ∀ k, (selW W s k).length ≤ k
  | 0 => Nat.le_refl _
  | k + 1 => by
    have := selW_len W s k
    show (selW W s k ++ _).length ≤ _
    rw [List.length_append]
    split <;> simp <;> omega
theorem selW_asc {W : List Nat} (hW : W.Pairwise (· < ·)) (s : Nat) : ∀ k, k ≤ W.length → (selW W s k).Pairwise (· < ·)
  | 0, _ => List.Pairwise.nil
  | k + 1, hk => by
    show (selW W s k ++ _).Pairwise _
    rw [List.pairwise_append]
    refine ⟨selW_asc hW s k (by omega), by split <;> simp, fun x hx y hy => ?_⟩
    split at hy
    · rw [List.mem_singleton] at hy
      obtain ⟨j, a, _, c⟩ := selW_mem (show k ≤ W.length by omega) hx
      have h1 := (List.pairwise_iff_getElem.1 hW) j k (by omega) (by omega) a
      obtain ⟨hj, rfl⟩ := List.getElem?_eq_some_iff.1 c
      rw [hy, List.getD_eq_getElem?_getD, List.getElem?_eq_getElem (show k < W.length by omega)]
      exact h1
    · cases hy
def worthL (h w : Int) (G : List PU) (k : Nat) : List Nat := (List.range k).filter fun i => decide (0 < saved h w (use G i))
theorem worthL_succ (h w : Int) (G : List PU) (k : Nat) : worthL h w G (k + 1) = if 0 < saved h w (use G k) then worthL h w G k ++ [k] else worthL h w G k := by
  unfold worthL
  rw [List.range_succ, List.filter_append]
  split
  · next e => rw [List.filter_cons, if_pos (by simpa using e)]; rfl
  · next e => rw [List.filter_cons, if_neg (by simpa using e)]; simp
theorem mem_worthL {h w : Int} {G : List PU} {k i : Nat} : i ∈ worthL h w G k ↔ i < k ∧ 0 < saved h w (use G i) := by
  unfold worthL; rw [List.mem_filter, List.mem_range]; simp
theorem worthL_asc (h w : Int) (G : List PU) (k : Nat) : (worthL h w G k).Pairwise (· < ·) := List.Pairwise.filter _ (List.pairwise_lt_range)
/-- Is a list less than another one? -/
def lessV : List Nat → List Nat → Bool
  | [], b => decide (0 < b.length)
  | _ :: _, [] => false
  | x :: a, y :: b => if x = y then lessV a b else decide (x < y)
theorem lessV_cons (x y : Nat) (a b : List Nat) : lessV (x :: a) (y :: b) = if x = y then lessV a b else decide (x < y) := rfl
theorem lessV_end {a b : List Nat} (h : a = [] ∨ b = []) : lessV a b = decide (a.length < b.length) := by
  rcases h with rfl | rfl
  · rfl
  · cases a with
    | nil => rfl
    | cons x a => show false = decide (a.length + 1 < 0); simp
/-- Is a set preferred? -/
def better (fit : Bool) (x : Int) (K : List Nat) (st : Int × List Nat) : Bool := fit && (decide (st.1 < 0) || decide (x < st.1) || (decide (x = st.1) && lessV K st.2))
/-- The specification's search. -/
def limR (L : List PU) (h w : Int) (W : List Nat) (n : Nat) : Nat → Int × List Nat
  | 0 => (-1, [])
  | s + 1 =>
    if better (fitV (gapsV L) (selW W s W.length) n) (keptV L h w (selW W s W.length)) (selW W s W.length) (limR L h w W n s) then (keptV L h w (selW W s W.length), selW W s W.length) else limR L h w W n s
theorem limR_succ (L : List PU) (h w : Int) (W : List Nat) (n s : Nat) : limR L h w W n (s + 1) = if better (fitV (gapsV L) (selW W s W.length) n) (keptV L h w (selW W s W.length)) (selW W s W.length) (limR L h w W n s) then (keptV L h w (selW W s W.length), selW W s W.length) else limR L h w W n s := rfl
/-- What Limited says: the error; the cost and the set. -/
def limE (L : List PU) (h w : Int) (n : Int) (ask : Int) : Int := if ask ≠ 0 then ask else if n < 0 ∨ 1024 < n then 2 else if 12 < (worthL h w (gapsV L) (gapsV L).length).length then 3 else 0
abbrev limWorth (L : List PU) (h w : Int) : List Nat := worthL h w (gapsV L) (gapsV L).length
def limV (L : List PU) (h w : Int) (n : Nat) : Int × List Nat := limR L h w (limWorth L h w) n (2 ^ (limWorth L h w).length)
theorem keptV_bd {L : List PU} (hL : OkL L) {h w : Int} (hc : OkC h w) (K : List Nat) : 0 ≤ keptV L h w K ∧ keptV L h w K ≤ 1000000000000000 := by
  have h1 := keptS_bd hc (fun g hg => ok_gaps hL hg) K _ (Nat.le_refl _)
  have h2 := firK_bd (L := L) hc.w0 hc.w1 L.length (Nat.le_refl _)
  have h3 := gapsV_len L
  have h4 := hL.len
  rw [kept_K]
  omega
theorem limR_bd {L : List PU} (hL : OkL L) {h w : Int} (hc : OkC h w) (W : List Nat) (n : Nat) : ∀ s, -1 ≤ (limR L h w W n s).1 ∧ (limR L h w W n s).1 ≤ 1000000000000000 ∧ (limR L h w W n s).2.length ≤ W.length
  | 0 => by simp [limR]
  | s + 1 => by
    rw [limR_succ]
    split
    · have := keptV_bd hL hc (selW W s W.length)
      exact ⟨by dsimp only; omega, this.2, selW_len _ _ _⟩
    · exact limR_bd hL hc W n s
theorem worth_le (h w : Int) (G : List PU) (k : Nat) : (worthL h w G k).length ≤ k := by
  have := List.length_filter_le (fun i => decide (0 < saved h w (use G i))) (List.range k)
  rwa [List.length_range] at this
end Go.Proofs.Ytnkkhbmbbkmfhaa.Py
namespace Go.Proofs.Ytnkkhbmbbkmfhaa.Py

def sumK (h w : Int) (G : List PU) (K : List Nat) : Int := (K.map fun i => saved h w (use G i)).sum
def betterP (fit : Bool) (x : Int) (K : List Nat) (st : Int × List Nat) : Bool := fit && (decide (st.1 < x) || (decide (x = st.1) && lessV K st.2))
def limP (L : List PU) (h w : Int) (W : List Nat) (n : Nat) : Nat → Int × List Nat
  | 0 => (-1, [])
  | s + 1 =>
    if betterP (fitP (gapsV L) (selW W s W.length) n) (sumK h w (gapsV L) (selW W s W.length)) (selW W s W.length) (limP L h w W n s) then (sumK h w (gapsV L) (selW W s W.length), selW W s W.length) else limP L h w W n s
theorem limP_succ (L : List PU) (h w : Int) (W : List Nat) (n s : Nat) : limP L h w W n (s + 1) = if betterP (fitP (gapsV L) (selW W s W.length) n) (sumK h w (gapsV L) (selW W s W.length)) (selW W s W.length) (limP L h w W n s) then (sumK h w (gapsV L) (selW W s W.length), selW W s W.length) else limP L h w W n s := rfl
theorem savS_nil (h w : Int) (G : List PU) : ∀ k, savS h w G [] k = 0
  | 0 => rfl
  | k + 1 => by show savS h w G [] k + _ = 0; rw [savS_nil h w G k, if_neg (by simp)]; rfl
theorem savS_snoc {h w : Int} {G : List PU} {K : List Nat} {x : Nat} (hx : x ∉ K) : ∀ k : Nat, savS h w G (K ++ [x]) k = savS h w G K k + if x < k then saved h w (use G x) else 0
  | 0 => by simp [savS]
  | k + 1 => by
    show savS h w G (K ++ [x]) k + _ = (savS h w G K k + _) + _
    rw [savS_snoc hx k]
    by_cases e : k = x
    · subst e
      rw [if_neg (show ¬ k < k by omega), if_pos (show k ∈ K ++ [k] by simp), if_neg hx, if_pos (by omega)] <;> omega
    · have e1 : k ∈ K ++ [x] ↔ k ∈ K := by simp [e]
      have e2 : (x < k) ↔ (x < k + 1) := by omega
      by_cases hk : k ∈ K
      · rw [if_pos (e1.2 hk), if_pos hk]
        by_cases h3 : x < k
        · rw [if_pos h3, if_pos (by omega)] <;> omega
        · rw [if_neg h3, if_neg (by omega)] <;> omega
      · rw [if_neg (fun q => hk (e1.1 q)), if_neg hk]
        by_cases h3 : x < k
        · rw [if_pos h3, if_pos (by omega)] <;> omega
        · rw [if_neg h3, if_neg (by omega)] <;> omega
/-- What a set of gaps saves, as a sum over the set. -/
theorem sumK_sav {h w : Int} {G : List PU} {K : List Nat} (hK : K.Nodup) (hb : ∀ k, k ∈ K → k < G.length) : sumK h w G K = savS h w G K G.length := by
  have key : ∀ R : List Nat, R.Nodup → (∀ k, k ∈ R → k < G.length) → sumK h w G R.reverse = savS h w G R.reverse G.length := by
    intro R
    induction R with
    | nil => intro _ _; show ([] : List Int).sum = _; rw [List.reverse_nil, savS_nil]; rfl
    | cons x R ih =>
      intro hn hR
      obtain ⟨h1, h2⟩ := List.nodup_cons.1 hn
      rw [List.reverse_cons, savS_snoc (by simpa using h1), if_pos (hR x (List.mem_cons_self ..)), ← ih h2 fun k hk => hR k (List.mem_cons_of_mem _ hk)]
      unfold sumK
      rw [sum_add1]
  have := key K.reverse ((List.reverse_perm K).nodup_iff.2 hK) (fun k hk => hb k (List.mem_reverse.1 hk))
  rwa [List.reverse_reverse] at this
theorem asc_nodup {K : List Nat} (h : Asc K) : K.Nodup := h.imp fun {a b} e => by omega
theorem sumK_nn {h w : Int} {G : List PU} {K : List Nat} (hK : ∀ k, k ∈ K → 0 < saved h w (use G k)) : 0 ≤ sumK h w G K := by
  unfold sumK
  induction K with
  | nil => exact Int.le_refl _
  | cons x K ih =>
    rw [List.map_cons, List.sum_cons]
    have := hK x (List.mem_cons_self ..)
    have := ih fun k hk => hK k (List.mem_cons_of_mem _ hk)
    omega
/-- Both searches go alike. -/
theorem lim_same {L : List PU} (hL : OkL L) {h w : Int} (hc : OkC h w) {W : List Nat} (hW : Asc W) (hWG : ∀ k, k ∈ W → k < (gapsV L).length ∧ 0 < saved h w (use (gapsV L) k)) (n : Nat) : ∀ s, (limP L h w W n s).2 = (limR L h w W n s).2 ∧
    (((limP L h w W n s).1 = -1 ∧ (limR L h w W n s).1 = -1) ∨ (0 ≤ (limP L h w W n s).1 ∧ 0 ≤ (limR L h w W n s).1 ∧ (limR L h w W n s).1 = (L.length : Int) * w - (limP L h w W n s).1))
  | 0 => ⟨rfl, .inl ⟨rfl, rfl⟩⟩
  | s + 1 => by
    obtain ⟨e2, e1⟩ := lim_same hL hc hW hWG n s
    have hmem : ∀ k, k ∈ selW W s W.length → k ∈ W := fun k hk => by
      obtain ⟨j, _, _, hj⟩ := selW_mem (Nat.le_refl _) hk
      exact List.mem_of_getElem? hj
    have hasc := selW_asc hW s W.length (Nat.le_refl _)
    have hlt : ∀ k, k ∈ selW W s W.length → k < (gapsV L).length := fun k hk => (hWG k (hmem k hk)).1
    have hfit := fit_same (gapsV_sorted L) hasc hlt n
    have hsum := sumK_sav (h := h) (w := w) (asc_nodup hasc) hlt
    have hkv := keptV_is L h w (selW W s W.length)
    rw [← hsum] at hkv
    have hs0 := sumK_nn (h := h) (w := w) (G := gapsV L) (K := selW W s W.length) fun k hk => (hWG k (hmem k hk)).2
    have hk0 := kept_nn hL hc (selW W s W.length)
    rw [limP_succ, limR_succ, hfit]
    generalize fitV (gapsV L) (selW W s W.length) n = fb
    generalize sumK h w (gapsV L) (selW W s W.length) = x at *
    generalize keptV L h w (selW W s W.length) = y at *
    generalize selW W s W.length = K at *
    generalize limP L h w W n s = p at *
    generalize limR L h w W n s = r at *
    obtain ⟨p1, p2⟩ := p
    obtain ⟨r1, r2⟩ := r
    dsimp only at e1 e2
    subst e2
    have hbb : betterP fb x K (p1, p2) = better fb y K (r1, p2) := by
      unfold betterP better
      dsimp only
      congr 1
      rcases e1 with ⟨rfl, rfl⟩ | ⟨h1, h2, h3⟩
      · rw [decide_eq_true (show (-1 : Int) < x by omega), decide_eq_true (show (-1 : Int) < 0 by omega)]; rfl
      · rw [decide_eq_false (show ¬ r1 < 0 by omega), Bool.false_or]
        have a1 : decide (p1 < x) = decide (y < r1) := by rw [Bool.eq_iff_iff, decide_eq_true_eq, decide_eq_true_eq]; omega
        have a2 : decide (x = p1) = decide (y = r1) := by rw [Bool.eq_iff_iff, decide_eq_true_eq, decide_eq_true_eq]; omega
        rw [a1, a2]
    rw [hbb]
    split
    · exact ⟨rfl, .inr ⟨hs0, hk0, hkv⟩⟩
    · exact ⟨rfl, e1⟩
end Go.Proofs.Ytnkkhbmbbkmfhaa.Py
namespace Go.Proofs.Ytnkkhbmbbkmfhaa.Py
theorem bitS_0 (k : Nat) : bitS 0 k = false := by unfold bitS; simp
theorem selW_0 (W : List Nat) : ∀ k, selW W 0 k = []
  | 0 => rfl
  | k + 1 => by show selW W 0 k ++ _ = []; rw [selW_0 W k, bitS_0]; rfl
theorem lim_pos (L : List PU) (h w : Int) (W : List Nat) (n : Nat) : ∀ s, 0 ≤ (limP L h w W n (s + 1)).1
  | 0 => by
    rw [limP_succ, selW_0]
    have : betterP (fitP (gapsV L) [] n) (sumK h w (gapsV L) []) [] (limP L h w W n 0) = true := by
      unfold betterP sumK limP fitP; simp
    rw [if_pos this]; exact Int.le_refl _
  | s + 1 => by
    have ih := lim_pos L h w W n s
    rw [limP_succ]
    split
    · next hb =>
      unfold betterP at hb
      simp only [Bool.and_eq_true, Bool.or_eq_true, decide_eq_true_eq] at hb
      dsimp only
      omega
    · exact ih
end Go.Proofs.Ytnkkhbmbbkmfhaa.Py
