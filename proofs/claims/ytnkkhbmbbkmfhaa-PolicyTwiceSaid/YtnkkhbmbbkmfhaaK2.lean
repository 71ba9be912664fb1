/- Plain: the steps in their order are there; how great the numbers get. Plain: laws of the least cost and of ages. Plain: what the pages that wait cost, tick by tick. Plain: all pages wait to the end. -/
import Derived.Test.YtnkkhbmbbkmfhaaK0
import Derived.Test.YtnkkhbmbbkmfhaaK1
namespace Go.Proofs.Ytnkkhbmbbkmfhaa.Py

def sltb (x y : St) : Bool := decide (x.a < y.a) || (decide (x.a = y.a) && ((x.b && !y.b) || (decide (x.b = y.b) && decide (x.p < y.p))))
theorem sltb_iff {x y : St} : sltb x y = true ↔ slt x y := by
  unfold sltb slt
  simp only [Bool.or_eq_true, Bool.and_eq_true, decide_eq_true_eq, Bool.not_eq_true']
theorem slt_total {x y : St} (h : ¬ slt x y) : slt y x ∨ x = y := by
  obtain ⟨a, b, p⟩ := x
  obtain ⟨a', b', p'⟩ := y
  unfold slt at *
  dsimp only at *
  rcases Int.lt_trichotomy a a' with h1 | h1 | h1
  · exact absurd (.inl h1) h
  · subst h1
    cases b <;> cases b'
    · rcases Int.lt_trichotomy p p' with h2 | h2 | h2
      · exact absurd (.inr ⟨rfl, .inr ⟨rfl, h2⟩⟩) h
      · subst h2; exact .inr rfl
      · exact .inl (.inr ⟨rfl, .inr ⟨rfl, h2⟩⟩)
    · exact .inl (.inr ⟨rfl, .inl ⟨rfl, rfl⟩⟩)
    · exact absurd (.inr ⟨rfl, .inl ⟨rfl, rfl⟩⟩) h
    · rcases Int.lt_trichotomy p p' with h2 | h2 | h2
      · exact absurd (.inr ⟨rfl, .inr ⟨rfl, h2⟩⟩) h
      · subst h2; exact .inr rfl
      · exact .inl (.inr ⟨rfl, .inr ⟨rfl, h2⟩⟩)
  · exact .inl (.inl h1)
theorem slt_trans {x y z : St} (h : slt x y) (k : slt y z) : slt x z := by
  obtain ⟨a, b, p⟩ := x
  obtain ⟨a', b', p'⟩ := y
  obtain ⟨a'', b'', p''⟩ := z
  unfold slt at *
  dsimp only at *
  rcases h with h | ⟨h, h1 | h1⟩ <;> rcases k with k | ⟨k, k1 | k1⟩
  · left; omega
  · left; omega
  · left; omega
  · left; omega
  · rw [h1.2] at k1; cases k1.1
  · exact .inr ⟨by omega, .inl ⟨h1.1, by rw [← k1.1]; exact h1.2⟩⟩
  · left; omega
  · exact .inr ⟨by omega, .inl ⟨by rw [h1.1]; exact k1.1, k1.2⟩⟩
  · exact .inr ⟨by omega, .inr ⟨by rw [h1.1]; exact k1.1, by omega⟩⟩
/-- No step comes twice. -/
theorem rawS_nodup : ∀ {L : List PU}, OkL L → (rawS L).Pairwise (fun x y => x ≠ y)
  | [], _ => List.Pairwise.nil
  | u :: L, h => by
    have hu := h.ok u (List.mem_cons_self ..)
    have ha := (List.pairwise_cons.1 h.good).1
    show (bgS u :: enS u :: rawS L).Pairwise _
    rw [List.pairwise_cons, List.pairwise_cons]
    refine ⟨fun y hy => ?_, fun y hy => ?_, rawS_nodup h.tail⟩
    · rcases List.mem_cons.1 hy with rfl | hy
      · intro e; injection e with _ e _; cases e
      · obtain ⟨v, hv, rfl | rfl⟩ := mem_rawS.1 hy
        · intro e
          injection e with e1 _ e2
          have := (ha v hv).1
          omega
        · intro e; injection e with _ e _; cases e
    · obtain ⟨v, hv, rfl | rfl⟩ := mem_rawS.1 hy
      · intro e; injection e with _ e _; cases e
      · intro e
        injection e with e1 _ e2
        have := (ha v hv).2 e2
        have := (h.tail.ok v hv).ft
        omega
/-- The steps of a trace. -/
def stepsV (L : List PU) : List St := (rawS L).mergeSort fun x y => !sltb y x
theorem isS_of {L : List PU} (h : OkL L) {S : List St} (hp : S.Perm (rawS L)) (hs : S.Pairwise fun x y => ¬ slt y x) : IsS L S := by
  refine ⟨hp, ?_⟩
  have hn : S.Pairwise fun x y => x ≠ y := List.Pairwise.perm (rawS_nodup h) hp.symm fun h e => h e.symm
  refine (hs.and hn).imp ?_
  rintro x y ⟨h1, h2⟩
  rcases slt_total h1 with h3 | h3
  · exact h3
  · exact absurd h3.symm h2
theorem stepsV_is {L : List PU} (h : OkL L) : IsS L (stepsV L) := by
  refine isS_of h (List.mergeSort_perm _ _) ?_
  have := List.pairwise_mergeSort (le := fun x y => !sltb y x) (fun a b c h1 h2 => ?_) (fun a b => ?_) (rawS L)
  · exact this.imp fun {a b} h => by
      intro hc; rw [sltb_iff.2 hc] at h; cases h
  · simp only [Bool.not_eq_true'] at *
    cases e : sltb c a with
    | false => rfl
    | true =>
      have h3 := sltb_iff.1 e
      rcases slt_total (x := b) (y := a) (fun hc => by rw [sltb_iff.2 hc] at h1; cases h1) with h4 | h4
      · rw [sltb_iff.2 (slt_trans h3 h4)] at h2; cases h2
      · subst h4; rw [e] at h2; cases h2
  · cases e : sltb b a with
    | false => simp
    | true =>
      have : sltb a b = false := by
        cases e2 : sltb a b with
        | false => rfl
        | true => exact (slt_asymm (sltb_iff.1 e) (sltb_iff.1 e2)).elim
      simp [this]
theorem stepsV_only {L : List PU} (h : OkL L) {S : List St} (hS : IsS L S) : S = stepsV L :=
  slt_only hS.sort (stepsV_is h).sort (hS.perm.trans (stepsV_is h).perm.symm)

/-! How great the numbers get. -/
structure Ph (t : Int) (st : PS) (M : Int) : Prop where
  nn : 0 ≤ st.1
  bd : st.1 + (st.2.length : Int) * 1000000000000 ≤ M
  at_ : ∀ x, x ∈ st.2 → 0 ≤ x.s ∧ x.s ≤ t
theorem Ph.mono {t : Int} {st : PS} {M M' : Int} (h : Ph t st M) (hM : M ≤ M') : Ph t st M' := ⟨h.nn, by have := h.bd; omega, h.at_⟩
theorem Ph.later {t t' : Int} {st : PS} {M : Int} (h : Ph t st M) (ht : t ≤ t') : Ph t' st M := ⟨h.nn, h.bd, fun x hx => by have := h.at_ x hx; omega⟩
theorem hold_bd {t s h w : Int} (hc : OkC h w) (h0 : 0 ≤ s) (h1 : s ≤ t) (ht : t ≤ 1000000000) : 0 ≤ (t - s) * h ∧ (t - s) * h ≤ 1000000000000 := by
  have := mul_bd (a := t - s) (b := h) (A := 1000000000) (B := 1000) (by omega) hc.h0 (by omega) hc.h1
  omega
theorem delW_lt {p : Int} {q : List Wt} {x : Wt} (h : findW p q = some x) : (delW p q).length + 1 ≤ q.length := by
  obtain ⟨hm, hp⟩ := findW_some h
  have h1 := (List.filter_append_perm (fun x : Wt => !decide (x.p = p)) q).length_eq
  rw [List.length_append] at h1
  have h2 : 0 < (q.filter fun x : Wt => !!decide (x.p = p)).length := List.length_pos_of_mem (List.mem_filter.2 ⟨hm, by simp [hp]⟩)
  show (q.filter _).length + 1 ≤ _
  omega
theorem Ph.bg {t : Int} {st : PS} {M : Int} (H : Ph t st M) {h w : Int} (hc : OkC h w) (ht : t ≤ 1000000000) (p : Int) : Ph t (bg h w st t p) (M + 1000000000) := by
  have h1 := H.nn; have h2 := H.bd
  have w0 := hc.w0; have w1 := hc.w1
  unfold Py.bg
  cases e : findW p st.2 with
  | none =>
    rw [del_none e]
    exact ⟨by show 0 ≤ st.1 + w; omega, by show st.1 + w + (st.2.length : Int) * 1000000000000 ≤ _; omega, H.at_⟩
  | some x =>
    have hx := H.at_ x (findW_some e).1
    have hb := hold_bd hc hx.1 hx.2 ht
    have hl := delW_lt e
    exact ⟨by show 0 ≤ st.1 + (t - x.s) * h; omega, by show st.1 + (t - x.s) * h + ((delW p st.2).length : Int) * _ ≤ _; omega, fun y hy => H.at_ y (mem_delW.1 hy).1⟩
theorem Ph.en {t : Int} {st : PS} {M : Int} (H : Ph t st M) (h0 : 0 ≤ t) (p : Int) : Ph t (st.1, st.2 ++ [⟨t, p⟩]) (M + 1000000000000) :=
  ⟨H.nn, by have := H.bd; simp only [List.length_append, List.length_cons, List.length_nil]; omega, fun x hx => by
    rcases List.mem_append.1 hx with hx | hx
    · exact H.at_ x hx
    · rw [List.mem_singleton.1 hx]; exact ⟨h0, Int.le_refl _⟩⟩
theorem Ph.pop {t : Int} {st : PS} {M : Int} (H : Ph t st M) {h w : Int} (hc : OkC h w) (ht : t ≤ 1000000000) {m : Nat} (hm : m < st.2.length) : Ph t (st.1 + (t - (wt st.2 m).s) * h, st.2.eraseIdx m) M := by
  have hx := H.at_ _ (List.mem_of_getElem? (wt_get hm))
  have hb := hold_bd hc hx.1 hx.2 ht
  have h1 := H.nn; have h2 := H.bd
  refine ⟨by dsimp only; omega, ?_, fun x hx => H.at_ x (List.mem_of_mem_eraseIdx hx)⟩
  dsimp only
  rw [List.length_eraseIdx_of_lt hm]; omega
theorem begR_snoc {L : List PU} {k : Nat} (hk : k < L.length) (h w t : Int) (st : PS) : begR h w t (L.take (k + 1)) st = if (use L k).f = t then bg h w (begR h w t (L.take k) st) t (use L k).p else begR h w t (L.take k) st := by
  unfold begR; rw [take_next (use_get hk), List.foldl_append]; rfl
theorem enR_snoc {L : List PU} {k : Nat} (hk : k < L.length) (t : Int) (H : List Wt) : enR t (L.take (k + 1)) H = if (use L k).t = t then enR t (L.take k) H ++ [⟨t, (use L k).p⟩] else enR t (L.take k) H := by
  unfold enR; rw [take_next (use_get hk), List.foldl_append]; rfl
theorem Ph.begR {t : Int} {st : PS} {M : Int} (H : Ph t st M) {h w : Int} (hc : OkC h w) (ht : t ≤ 1000000000) (L : List PU) : ∀ k : Nat, k ≤ L.length → Ph t (Py.begR h w t (L.take k) st) (M + (k : Int) * 1000000000)
  | 0, _ => by rw [List.take_zero]; exact H.mono (by omega)
  | k + 1, hk => by
    have ih := H.begR hc ht L k (by omega)
    rw [begR_snoc (show k < L.length by omega)]
    split
    · exact (ih.bg hc ht _).mono (by omega)
    · exact ih.mono (by omega)
theorem Ph.enR {t : Int} {st : PS} {M : Int} (H : Ph t st M) (h0 : 0 ≤ t) (L : List PU) : ∀ k : Nat, k ≤ L.length → Ph t (st.1, Py.enR t (L.take k) st.2) (M + (k : Int) * 1000000000000)
  | 0, _ => by rw [List.take_zero]; exact H.mono (by omega)
  | k + 1, hk => by
    have ih := H.enR h0 L k (by omega)
    rw [enR_snoc (show k < L.length by omega)]
    split
    · exact (ih.en h0 _).mono (by omega)
    · exact ih.mono (by omega)
theorem begR_sub (h w t : Int) : ∀ (L : List PU) (st : PS), (begR h w t L st).2.Sublist st.2
  | [], st => List.Sublist.refl _
  | u :: L, st => by
    show (begR h w t L (if u.f = t then bg h w st t u.p else st)).2.Sublist st.2
    split
    · exact (begR_sub h w t L _).trans List.filter_sublist
    · exact begR_sub h w t L st
theorem enR_len (t : Int) (H : List Wt) (L : List PU) : (enR t L H).length ≤ H.length + L.length := by
  rw [enR_is, List.length_append, List.length_map, List.length_map]
  have := List.length_filter_le (fun u : PU => decide (u.t = t)) L
  omega
/-- How many steps are still to come. -/
def left (L : List PU) (τ : Int) : Nat := (Rt (stepsV L) τ).length
theorem end_is : ∀ (L : List PU) (m : Int), L.foldl (fun m u => max m u.t) m = m ∨ ∃ u, u ∈ L ∧ L.foldl (fun m u => max m u.t) m = u.t
  | [], m => .inl rfl
  | u :: L, m => by
    simp only [List.foldl_cons]
    rcases end_is L (max m u.t) with h | ⟨v, hv, h⟩
    · rw [h]
      rcases Int.le_total m u.t with h2 | h2
      · exact .inr ⟨u, List.mem_cons_self .., by omega⟩
      · exact .inl (by omega)
    · exact .inr ⟨v, List.mem_cons_of_mem _ hv, h⟩
theorem aft_is (τ : Int) : ∀ (L : List PU) (b : Int), L.foldl (aft1 τ) b = b ∨ ∃ u, u ∈ L ∧ (L.foldl (aft1 τ) b = u.f ∨ L.foldl (aft1 τ) b = u.t)
  | [], b => .inl rfl
  | u :: L, b => by
    simp only [List.foldl_cons]
    rcases aft_is τ L (aft1 τ b u) with h | ⟨v, hv, h⟩
    · rw [h]
      have : aft1 τ b u = b ∨ aft1 τ b u = u.f ∨ aft1 τ b u = u.t := by
        unfold aft1
        dsimp only
        split <;> split <;> omega
      rcases this with h2 | h2
      · exact .inl h2
      · exact .inr ⟨u, List.mem_cons_self .., h2⟩
    · exact .inr ⟨v, List.mem_cons_of_mem _ hv, h⟩
theorem left_lt {L : List PU} (hL : OkL L) (hne : 0 < L.length) {τ : Int} (h : τ < endV L) : left L (afterV L τ) + 1 ≤ left L τ := by
  have hS := stepsV_is hL
  have hb := afterV_bd h
  have hsp := tick_split hS hb.1 (afterV_no hS τ)
  have hlen := congrArg List.length hsp
  rw [List.length_append, List.length_append] at hlen
  have hev : ∃ u, u ∈ L ∧ (afterV L τ = u.f ∨ afterV L τ = u.t) := by
    rcases aft_is τ L (endV L) with h1 | h1
    · rcases end_is L 0 with h2 | ⟨u, hu, h2⟩
      · exfalso
        obtain ⟨u, hu⟩ := List.exists_mem_of_length_pos hne
        have h3 := endV_ge hu
        have h4 : endV L = 0 := h2
        have := (hL.ok u hu).ft; have := (hL.ok u hu).f0
        omega
      · exact ⟨u, hu, .inr (h1.trans h2)⟩
    · exact h1
  obtain ⟨u, hu, he⟩ := hev
  have hpos : 0 < (Bt (stepsV L) (afterV L τ)).length + (Et (stepsV L) (afterV L τ)).length := by
    rcases he with he | he
    · have : bgS u ∈ Bt (stepsV L) (afterV L τ) := List.mem_filter.2 ⟨(hS.perm.mem_iff).2 (mem_rawS.2 ⟨u, hu, .inl rfl⟩), by rw [he]; simp [bgS]⟩
      have := List.length_pos_of_mem this
      omega
    · have : enS u ∈ Et (stepsV L) (afterV L τ) := List.mem_filter.2 ⟨(hS.perm.mem_iff).2 (mem_rawS.2 ⟨u, hu, .inr rfl⟩), by rw [he]; simp [enS]⟩
      have := List.length_pos_of_mem this
      omega
  show (Rt (stepsV L) (afterV L τ)).length + 1 ≤ (Rt (stepsV L) τ).length
  omega
theorem left_le {L : List PU} (hL : OkL L) (τ : Int) : left L τ ≤ 400 := by
  have h1 := List.length_filter_le (fun s : St => decide (τ < s.a)) (stepsV L)
  have h2 := (stepsV_is hL).perm.length_eq
  rw [rawS_len] at h2
  have := hL.len
  show (List.filter _ _).length ≤ _
  omega
/-- The bound at a tick. -/
def bndT (L : List PU) (τ : Int) : Int := ((400 - left L τ : Nat) : Int) * ((L.length : Int) * 1001000000000)
theorem bndT_next {L : List PU} (hL : OkL L) {τ : Int} (h : τ < endV L) : bndT L τ + (L.length : Int) * 1001000000000 ≤ bndT L (afterV L τ) := by
  unfold bndT
  rcases Nat.eq_zero_or_pos L.length with h0 | h0
  · rw [h0]; simp
  · have h1 := left_lt hL h0 h
    have h2 := left_le hL τ
    have e : (400 - left L (afterV L τ) : Nat) = (400 - left L τ) + (left L τ - left L (afterV L τ) - 1) + 1 := by omega
    rw [e, Int.natCast_add, Int.natCast_add, Int.add_mul, Int.add_mul]
    have h3 : (0 : Int) ≤ ((left L τ - left L (afterV L τ) - 1 : Nat) : Int) * ((L.length : Int) * 1001000000000) := Int.mul_nonneg (by omega) (by omega)
    omega
theorem bndT_le {L : List PU} (hL : OkL L) (τ : Int) : 0 ≤ bndT L τ ∧ bndT L τ ≤ 80080000000000000 := by
  unfold bndT
  have := hL.len
  have := mul_bd (a := ((400 - left L τ : Nat) : Int)) (b := (L.length : Int) * 1001000000000) (A := 400) (B := 200200000000000) (by omega) (by omega) (by omega) (by omega)
  omega
end Go.Proofs.Ytnkkhbmbbkmfhaa.Py
namespace Go.Proofs.Ytnkkhbmbbkmfhaa.Py

def minC (h w : Int) (g : PU) : Int := min ((g.t - g.f) * h) w
theorem minS (h w : Int) (G : List PU) : ∀ k, k ≤ G.length → ((G.take k).map (minC h w)).sum = (k : Int) * w - leastS h w G k
  | 0, _ => by simp [leastS]
  | k + 1, hk => by
    have ih := minS h w G k (by omega)
    rw [take_next (use_get (show k < G.length by omega)), sum_add1, ih]
    show _ = ((k + 1 : Nat) : Int) * w - (leastS h w G k + if 0 ≤ saved h w (use G k) then saved h w (use G k) else 0)
    have e : ((k + 1 : Nat) : Int) * w = (k : Int) * w + w := by rw [Int.natCast_add, Int.add_mul]; simp
    rw [e]
    unfold minC saved
    generalize ((use G k).t - (use G k).f) * h = x
    split <;> omega
theorem leastV_min (L : List PU) (h w : Int) : leastV L h w = (firsts L : Int) * w + ((gapsV L).map (minC h w)).sum := by
  have h1 := minS h w (gapsV L) _ (Nat.le_refl _)
  rw [List.take_length] at h1
  have h2 := firsts_gaps L
  unfold leastV
  rw [h1, ← h2, Int.natCast_add, Int.add_mul]; omega
theorem sum_two {α : Type} (f : α → Int) : ∀ l : List α, (l.map fun x => 2 * f x).sum = 2 * (l.map f).sum
  | [] => rfl
  | x :: l => by rw [List.map_cons, List.map_cons, List.sum_cons, List.sum_cons, sum_two f l]; omega
theorem minC_le (h w : Int) (_hw : 0 ≤ w) {age : Int} (ha : 0 ≤ age) (hh : 0 ≤ h) (g : PU) : minC h w g ≤ gapC h w age g := by
  unfold minC gapC
  have : 0 ≤ age * h := Int.mul_nonneg ha hh
  split <;> omega
theorem least_le_aged {L : List PU} (hL : OkL L) {h w : Int} (hc : OkC h w) {age : Int} (ha : 0 ≤ age) : leastV L h w ≤ agedV L h w age := by
  rw [leastV_min]
  unfold agedV
  have h1 := sum_le (l := gapsV L) (f := minC h w) (g := gapC h w age) fun g _ => minC_le h w hc.w0 ha hc.h0 g
  have h2 := (sum_bd (l := tails L) (f := fun u => tailC h age (endV L) u.t) (B := 1000000000000) fun u hu => by
    have hm := mem_tails hu
    have hu' := hL.ok u hm
    have f0 := hu'.f0; have ft := hu'.ft
    exact tailC_bd hc ha (endV_le hL.ok) (by omega) (endV_ge hm)).1
  omega
theorem least_nn {L : List PU} (hL : OkL L) {h w : Int} (hc : OkC h w) : 0 ≤ leastV L h w := by
  rw [← least_kept]; exact kept_nn hL hc _
theorem twice {L : List PU} (hL : OkL L) {h w : Int} (hc : OkC h w) (h1 : 1 ≤ h) {age : Int} (hage : age = min (w / h) 1000000000) : agedV L h w age - leastV L h w ≤ leastV L h w := by
  have hw := hc.w0
  have d1 : w / h * h ≤ w := Int.ediv_mul_le w (by omega)
  have d2 : w < (w / h + 1) * h := Int.lt_ediv_add_one_mul_self w (by omega)
  have d0 : 0 ≤ w / h := Int.ediv_nonneg hw (by omega)
  generalize w / h = q at *
  have ha : 0 ≤ age := by omega
  have hah : age * h ≤ w := Int.le_trans (Int.mul_le_mul_of_nonneg_right (by omega) (by omega)) d1
  rw [leastV_min]
  unfold agedV
  have h1 := sum_le (l := gapsV L) (f := gapC h w age) (g := fun g => 2 * minC h w g) fun g hg => by
    have hok := ok_gaps hL hg
    have ft := hok.ft; have t1 := hok.t1; have f0 := hok.f0
    unfold minC gapC
    by_cases hd : g.t - g.f ≤ age
    · rw [if_pos hd]
      have e1 : (g.t - g.f) * h ≤ age * h := Int.mul_le_mul_of_nonneg_right hd (by omega)
      have e2 : 0 ≤ (g.t - g.f) * h := Int.mul_nonneg (by omega) (by omega)
      omega
    · rw [if_neg hd]
      have e1 : (q + 1) * h ≤ (g.t - g.f) * h := Int.mul_le_mul_of_nonneg_right (by omega) (by omega)
      omega
  rw [sum_two] at h1
  have h2 := (sum_bd (l := tails L) (f := fun u => tailC h age (endV L) u.t) (B := w) fun u hu => by
    have hm := mem_tails hu
    have hg := endV_ge hm
    unfold tailC
    have e1 : min age (endV L - u.t) * h ≤ age * h := Int.mul_le_mul_of_nonneg_right (by omega) (by omega)
    exact ⟨Int.mul_nonneg (by omega) (by omega), by omega⟩).2
  rw [tails_firsts, Int.mul_comm w] at h2
  omega

/-! The best age. -/
theorem step_down {A : List Int} (h0 : (0 : Int) ∈ A) : ∀ n : Nat, ∃ a, a ∈ A ∧ a ≤ (n : Int) ∧ 0 ≤ a ∧ ∀ b, b ∈ A → b ≤ (n : Int) → b ≤ a
  | 0 => ⟨0, h0, by omega, by omega, fun b _ hb => by omega⟩
  | n + 1 => by
    obtain ⟨a, h1, h2, h3, h4⟩ := step_down h0 n
    by_cases hm : ((n + 1 : Nat) : Int) ∈ A
    · exact ⟨_, hm, Int.le_refl _, by omega, fun b _ hb => hb⟩
    · refine ⟨a, h1, by omega, h3, fun b hb hle => h4 b hb ?_⟩
      have : b ≠ ((n + 1 : Nat) : Int) := fun e => hm (e ▸ hb)
      omega
theorem aged_mono {L : List PU} {h w : Int} (hc : OkC h w) {a b : Int} (_ha : 0 ≤ a) (hab : a ≤ b) (hno : ∀ g, g ∈ gapsV L → g.t - g.f ≤ b → g.t - g.f ≤ a) : agedV L h w a ≤ agedV L h w b := by
  have hh := hc.h0
  have h3 : a * h ≤ b * h := Int.mul_le_mul_of_nonneg_right hab hh
  unfold agedV
  have h1 := sum_le (l := gapsV L) (f := gapC h w a) (g := gapC h w b) fun g hg => by
    unfold gapC
    by_cases e : g.t - g.f ≤ b
    · rw [if_pos e, if_pos (hno g hg e)]; exact Int.le_refl _
    · rw [if_neg e, if_neg (by omega)]; omega
  have h2 := sum_le (l := tails L) (f := fun u => tailC h a (endV L) u.t) (g := fun u => tailC h b (endV L) u.t) fun u _ => by
    unfold tailC
    exact Int.mul_le_mul_of_nonneg_right (by omega) hh
  omega
theorem tune_is (L : List PU) (h w : Int) : IsTune (agedV L h w) (0 :: lens (gapsV L)) (tuneV L h w) := tuneR_all _ _
theorem lens_mem {G : List PU} {a : Int} : a ∈ lens G ↔ ∃ g, g ∈ G ∧ g.t - g.f = a := by unfold lens; rw [List.mem_map]
theorem tune_bd {L : List PU} (hL : OkL L) (h w : Int) : 0 ≤ (tuneV L h w).1 ∧ (tuneV L h w).1 ≤ 1000000000 := by
  rcases List.mem_cons.1 (tune_is L h w).mem with e | e
  · rw [e]; omega
  · obtain ⟨g, hg, e⟩ := lens_mem.1 e
    have hok := ok_gaps hL hg
    have ft := hok.ft; have t1 := hok.t1; have f0 := hok.f0
    omega
theorem tuned (L : List PU) {h w : Int} (hc : OkC h w) {age : Int} (h0 : 0 ≤ age) : (tuneV L h w).2 = agedV L h w (tuneV L h w).1 ∧ (tuneV L h w).2 ≤ agedV L h w age ∧ (age < (tuneV L h w).1 → (tuneV L h w).2 < agedV L h w age) := by
  have T := tune_is L h w
  obtain ⟨a, h1, h2, h3, h4⟩ := step_down (A := 0 :: lens (gapsV L)) (List.mem_cons_self ..) age.toNat
  have e : ((age.toNat : Nat) : Int) = age := by omega
  rw [e] at h2 h4
  have hm := aged_mono (L := L) hc h3 h2 fun g hg hle => h4 _ (List.mem_cons_of_mem _ (lens_mem.2 ⟨g, hg, rfl⟩)) hle
  have hb := T.best a h1
  exact ⟨T.val, by omega, fun h => by omega⟩

/-! The trace on which an age does badly. -/
theorem worst_bad {age : Int} (h0 : 0 ≤ age) {n : Nat} (hle : 1 + ((n : Int) - 1) * (age + 2) ≤ 1000000000) (hn : n ≤ 200) : OkL (worstL age n) := by
  refine ⟨by rw [worstL_len]; exact hn, fun u hu => ?_, ?_⟩
  · obtain ⟨i, hi, rfl⟩ := List.mem_map.1 hu
    rw [List.mem_range] at hi
    have e1 : (i : Int) * (age + 2) ≤ ((n : Int) - 1) * (age + 2) := Int.mul_le_mul_of_nonneg_right (by omega) (by omega)
    have e2 : 0 ≤ (i : Int) * (age + 2) := Int.mul_nonneg (by omega) (by omega)
    refine ⟨?_, ?_, ?_, ?_, ?_⟩ <;> (unfold worstU; dsimp only; omega)
  · unfold Good worstL
    rw [List.pairwise_map]
    refine List.Pairwise.imp (fun {i j} hij => ?_) List.pairwise_lt_range
    have e1 : ((i : Int) + 1) * (age + 2) ≤ (j : Int) * (age + 2) := Int.mul_le_mul_of_nonneg_right (by omega) (by omega)
    rw [Int.add_mul, Int.one_mul] at e1
    unfold Ahead worstU
    dsimp only
    omega
theorem worst_raw (age : Int) : ∀ (n : Nat) , rawF no (worstL age (n + 1)) = (List.range n).map (fun (i : Nat) => (⟨0, (i : Int) * (age + 2) + 1, ((i + 1 : Nat) : Int) * (age + 2)⟩ : PU)) ∧ lastF no (worstL age (n + 1)) 0 = some ((n : Int) * (age + 2) + 1)
  | 0 => by
    refine ⟨rfl, ?_⟩
    show some _ = _
    simp [worstU]
  | n + 1 => by
    obtain ⟨h1, h2⟩ := worst_raw age n
    rw [worstL_succ age (n + 1), rawF_add, h1, lastF_add]
    constructor
    · unfold gapM
      rw [show (worstU age (n + 1)).p = 0 from rfl, h2, List.range_succ, List.map_append]
      rfl
    · unfold upd worstU; simp
theorem worst_cost {age h w : Int} (h0 : 0 ≤ age) {n : Nat} (hle : 1 + ((n : Int) - 1) * (age + 2) ≤ 1000000000) (hn : n ≤ 200) (h1 : 1 ≤ n) : agedV (worstL age n) h w age = (n : Int) * w + ((n : Int) - 1) * age * h := by
  obtain ⟨m, rfl⟩ : ∃ m, n = m + 1 := ⟨n - 1, by omega⟩
  have hL := worst_bad h0 hle hn
  rw [aged_pages hL]
  obtain ⟨r1, r2⟩ := worst_raw age m
  have hperm : (gapsV (worstL age (m + 1))).Perm (rawF no (worstL age (m + 1))) := (gapsV_perm _).trans (raw_ref _).symm
  have hlen := hperm.length_eq
  rw [r1, List.length_map, List.length_range] at hlen
  have hf := firsts_gaps (worstL age (m + 1))
  rw [worstL_len, hlen] at hf
  have hf1 : firsts (worstL age (m + 1)) = 1 := by omega
  have hsum : ((gapsV (worstL age (m + 1))).map (gapC h w age)).sum = (m : Int) * (age * h + w) := by
    rw [perm_sum _ hperm, r1]
    have : ∀ k : Nat, (((List.range k).map (fun (i : Nat) => (⟨0, (i : Int) * (age + 2) + 1, ((i + 1 : Nat) : Int) * (age + 2)⟩ : PU))).map (gapC h w age)).sum = (k : Int) * (age * h + w) := fun k => by
      induction k with
      | zero => simp
      | succ k ih =>
        rw [List.range_succ, List.map_append, List.map_append, List.sum_append, ih]
        have e : ((k + 1 : Nat) : Int) * (age * h + w) = (k : Int) * (age * h + w) + (age * h + w) := by rw [Int.natCast_add, Int.add_mul]; simp
        rw [e]
        congr 1
        simp only [List.map_cons, List.map_nil, List.sum_cons, List.sum_nil, Int.add_zero]
        unfold gapC
        dsimp only
        rw [if_neg]
        rw [Int.natCast_add, Int.add_mul]
        omega
    exact this m
  have hend : endV (worstL age (m + 1)) = (m : Int) * (age + 2) + 1 := by
    rw [worstL_succ, endV_add]
    have : endV (worstL age m) ≤ (m : Int) * (age + 2) + 1 := (foldl_max _ 0).2.2 _ (by have := Int.mul_nonneg (a := (m : Int)) (b := age + 2) (by omega) (by omega); omega) fun u hu => by
      obtain ⟨i, hi, rfl⟩ := List.mem_map.1 hu
      rw [List.mem_range] at hi
      have := Int.mul_le_mul_of_nonneg_right (a := (i : Int)) (b := (m : Int)) (c := age + 2) (by omega) (by omega)
      unfold worstU
      dsimp only
      omega
    have e : (worstU age m).t = (m : Int) * (age + 2) + 1 := rfl
    rw [e]; omega
  have htail : pageS (lastF no (worstL age (m + 1))) (tailC h age (endV (worstL age (m + 1)))) 1024 = 0 := by
    have hz : ∀ n : Nat, pageS (lastF no (worstL age (m + 1))) (tailC h age (endV (worstL age (m + 1)))) n = 0 := fun n => by
      have hall : ∀ p t, lastF no (worstL age (m + 1)) p = some t → t = (m : Int) * (age + 2) + 1 := fun p t hp => by
        have hp' := hp
        rw [← List.take_length (l := worstL age (m + 1))] at hp'
        obtain ⟨j, j1, j2, j3, _⟩ := last_from _ p t hp'
        have hm := use_mem j2
        obtain ⟨i, _, e⟩ := List.mem_map.1 hm
        rw [← e] at j3
        have : p = 0 := j3.symm
        subst this
        rw [r2] at hp
        injection hp with hp; exact hp.symm
      have := pageS_bd (m := lastF no (worstL age (m + 1))) (ψ := tailC h age (endV (worstL age (m + 1)))) (B := 0) (Int.le_refl _) (fun p t hp => by
        rw [hall p t hp, hend]
        unfold tailC
        rw [Int.sub_self, show min age 0 = 0 by omega, Int.zero_mul]; omega) n
      omega
    exact hz 1024
  rw [hf1, hsum, htail]
  have e : ((m + 1 : Nat) : Int) - 1 = (m : Int) := by omega
  rw [e, Int.natCast_add, Int.add_mul, Int.mul_add, Int.mul_assoc]
  simp
  omega
end Go.Proofs.Ytnkkhbmbbkmfhaa.Py
namespace Go.Proofs.Ytnkkhbmbbkmfhaa.Py

theorem tick_ind {L : List PU} {S : List St} (hL : OkL L) (hS : IsS L S) (h w : Int) (lim : Nat) (M : Int → PS → Prop) (h0 : M (-1) (0, []))
    (hst : ∀ τ t st, τ < t → (∀ s, s ∈ S → τ < s.a → t ≤ s.a) → Inv L lim τ st.2 → M τ st → M t (tickP h w lim S t st)) : ∃ τ, endV L ≤ τ ∧ M τ (runP h w lim S (0, [])) ∧ Inv L lim τ (runP h w lim S (0, [])).2 := by
  have key : ∀ (n : Nat) (τ : Int) (st : PS), (endV L - τ).toNat ≤ n → Inv L lim τ st.2 → M τ st → runP h w lim (Rt S τ) st = runP h w lim S (0, []) → ∃ τ, endV L ≤ τ ∧ M τ (runP h w lim S (0, [])) ∧ Inv L lim τ (runP h w lim S (0, [])).2 := by
    intro n
    induction n with
    | zero =>
      intro τ st hn I m hr
      have hle : endV L ≤ τ := by omega
      rw [Rt_end hL hS hle] at hr
      rw [← hr]
      exact ⟨τ, hle, m, I⟩
    | succ n ih =>
      intro τ st hn I m hr
      by_cases hle : endV L ≤ τ
      · rw [Rt_end hL hS hle] at hr
        rw [← hr]
        exact ⟨τ, hle, m, I⟩
      · have hlt : τ < endV L := by omega
        have hb := afterV_bd hlt
        have hno := afterV_no hS τ
        refine ih (afterV L τ) (tickP h w lim S (afterV L τ) st) (by omega) (I.tick hL hS h w hb.1 hno).1 (hst τ _ st hb.1 hno I m) ?_
        rw [← run_tick hS h w hb.1 hno I.len]; exact hr
  exact key _ (-1) (0, []) (Nat.le_refl _) (Inv.start L lim) h0 (by rw [Rt_start hL hS])
/-- The uses that have begun. -/
def begun (L : List PU) (τ : Int) : List PU := L.filter fun u => decide (u.f ≤ τ)
def begun1 (L : List PU) (t : Int) : List PU := L.filter fun u => decide (u.f = t)
theorem good_f {L : List PU} (h : Good L) : L.Pairwise fun a b => a.f ≤ b.f := List.Pairwise.imp (fun {a b} h => by rcases h.1 with h1 | h1 <;> omega) h
theorem begun_split {τ t : Int} (hlt : τ < t) : ∀ {L : List PU}, (L.Pairwise fun a b => a.f ≤ b.f) → (∀ u, u ∈ L → τ < u.f → t ≤ u.f) → begun L t = begun L τ ++ begun1 L t
  | [], _, _ => rfl
  | u :: L, hp, hno => by
    obtain ⟨h1, h2⟩ := List.pairwise_cons.1 hp
    have ih := begun_split hlt h2 fun v hv => hno v (List.mem_cons_of_mem _ hv)
    have hu := hno u (List.mem_cons_self ..)
    unfold begun begun1 at *
    by_cases e : u.f ≤ τ
    · rw [List.filter_cons, if_pos (by simp; omega), List.filter_cons, if_pos (by simpa using e), List.filter_cons, if_neg (by simp; omega), ih]; rfl
    · have h3 : t ≤ u.f := hu (by omega)
      have h4 : L.filter (fun u => decide (u.f ≤ τ)) = [] := by
        rw [List.filter_eq_nil_iff]
        intro v hv
        have := h1 v hv
        simp; omega
      rw [h4] at ih
      rw [List.filter_cons (x := u) (xs := L) (p := fun u : PU => decide (u.f ≤ τ)), if_neg (by simpa using e), h4]
      by_cases e2 : u.f = t
      · rw [List.filter_cons, if_pos (by simp; omega), List.filter_cons, if_pos (by simpa using e2), ih]; rfl
      · rw [List.filter_cons, if_neg (by simp; omega), List.filter_cons, if_neg (by simpa using e2), ih]
theorem begun_all {L : List PU} (hL : OkL L) {τ : Int} (h : endV L ≤ τ) : begun L τ = L := by
  unfold begun
  rw [List.filter_eq_self]
  intro u hu
  have := (hL.ok u hu).ft
  have := endV_ge hu
  simp; omega
theorem begun_none {L : List PU} (hL : OkL L) : begun L (-1) = [] := by
  unfold begun
  rw [List.filter_eq_nil_iff]
  intro u hu
  have := (hL.ok u hu).f0
  simp; omega
theorem steps_f {L : List PU} {S : List St} (hS : IsS L S) {τ t : Int} (hno : ∀ s, s ∈ S → τ < s.a → t ≤ s.a) : ∀ u, u ∈ L → τ < u.f → t ≤ u.f :=
  fun u hu hf => hno (bgS u) ((hS.perm.mem_iff).2 (mem_rawS.2 ⟨u, hu, .inl rfl⟩)) hf
theorem steps_t {L : List PU} {S : List St} (hS : IsS L S) {τ t : Int} (hno : ∀ s, s ∈ S → τ < s.a → t ≤ s.a) : ∀ u, u ∈ L → τ < u.t → t ≤ u.t :=
  fun u hu hf => hno (enS u) ((hS.perm.mem_iff).2 (mem_rawS.2 ⟨u, hu, .inr rfl⟩)) hf
theorem Et_mem {L : List PU} {S : List St} (hS : IsS L S) {t : Int} {s : St} : s ∈ Et S t ↔ ∃ u, u ∈ L ∧ u.t = t ∧ s = enS u := by
  rw [(Et_is hS t).mem_iff, List.mem_map]
  constructor
  · rintro ⟨u, hu, rfl⟩
    obtain ⟨h1, h2⟩ := List.mem_filter.1 hu
    exact ⟨u, h1, by simpa using h2, rfl⟩
  · rintro ⟨u, h1, h2, rfl⟩
    exact ⟨u, List.mem_filter.2 ⟨h1, by simpa using h2⟩, rfl⟩

/-! No page waits. -/
theorem beg_empty (h w : Int) : ∀ (B : List PU) (n : Int), beg h w (B.map bgS) (n, []) = (n + (B.length : Int) * w, [])
  | [], n => by simp [beg]
  | u :: B, n => by
    show beg h w (B.map bgS) (bg h w (n, []) u.f u.p) = _
    have e : bg h w (n, []) u.f u.p = (n + w, []) := rfl
    rw [e, beg_empty h w B, List.length_cons, Int.natCast_add, Int.add_mul]
    simp
    omega
theorem sum_zero {α : Type} {f : α → Int} : ∀ {l : List α}, (∀ x, x ∈ l → f x = 0) → (l.map f).sum = 0
  | [], _ => rfl
  | x :: l, h => by rw [List.map_cons, List.sum_cons, h x (List.mem_cons_self ..), sum_zero fun y hy => h y (List.mem_cons_of_mem _ hy)]; rfl
theorem most_0 {L : List PU} {S : List St} (hL : OkL L) (hS : IsS L S) (h w : Int) : mostV L S h w 0 = agedV L h w 0 := by
  obtain ⟨τ, hle, ⟨h1, h2⟩, _⟩ := tick_ind hL hS h w 0 (fun τ st => st.2 = [] ∧ st.1 = ((begun L τ).length : Int) * w) ⟨rfl, by rw [begun_none hL]; simp⟩ (by
    rintro τ t ⟨n, q⟩ hlt hno I ⟨hq, hn⟩
    dsimp only at hq hn
    subst hq; subst hn
    unfold tickP
    rw [Bt_is hL hS, beg_empty]
    have hb := begun_split hlt (good_f hL.good) (steps_f hS hno)
    constructor
    · unfold popN en; simp
    · unfold popN en
      dsimp only
      have hbl : ((begun L t).length : Int) * w = ((begun L τ).length : Int) * w + ((begun1 L t).length : Int) * w := by rw [hb, List.length_append, Int.natCast_add, Int.add_mul]
      rw [hbl]
      have : ((List.take (([] ++ (Et S t).map fun s : St => (⟨s.a, s.p⟩ : Wt)).length - 0) ([] ++ (Et S t).map fun s : St => (⟨s.a, s.p⟩ : Wt))).map fun x => (t - x.s) * h).sum = 0 := sum_zero fun x hx => by
        rw [Nat.sub_zero, List.take_length, List.nil_append] at hx
        obtain ⟨s, hs, rfl⟩ := List.mem_map.1 hx
        obtain ⟨u, _, hu, rfl⟩ := (Et_mem hS).1 hs
        show (t - u.t) * h = 0
        rw [hu, Int.sub_self, Int.zero_mul]
      rw [this]
      show _ + ((begun1 L t).length : Int) * w + 0 = _
      omega)
  unfold mostV
  rw [h1, h2, begun_all hL hle]
  unfold agedV restS
  have e1 : ((gapsV L).map (gapC h w 0)).sum = ((gapsV L).map fun _ => w).sum := by
    congr 1
    apply List.map_congr_left
    intro g hg
    have := (ok_gaps hL hg).ft
    unfold gapC
    rw [if_neg (by omega), Int.zero_mul, Int.zero_add]
  have e2 : ((tails L).map fun u => tailC h 0 (endV L) u.t).sum = 0 := sum_zero fun u hu => by
    have := endV_ge (mem_tails hu)
    unfold tailC
    rw [show min 0 (endV L - u.t) = 0 by omega, Int.zero_mul]
  have e3 : ∀ l : List PU, (l.map fun _ => w).sum = (l.length : Int) * w := fun l => by
    induction l with
    | nil => simp
    | cons x l ih => rw [List.map_cons, List.sum_cons, ih, List.length_cons, Int.natCast_add, Int.add_mul]; simp; omega
  have h3 := firsts_gaps L
  rw [e1, e2, e3, ← h3, Int.natCast_add, Int.add_mul]
  simp
end Go.Proofs.Ytnkkhbmbbkmfhaa.Py
namespace Go.Proofs.Ytnkkhbmbbkmfhaa.Py

def mapQ (q : List Wt) : Mp := fun p => (findW p q).map fun x => x.s
theorem mapQ_cons (x : Wt) (q : List Wt) : mapQ (x :: q) = upd (mapQ q) x.p (some x.s) := by
  funext p
  unfold mapQ upd findW
  by_cases e : p = x.p
  · rw [if_pos e, List.find?_cons_of_pos (by simp [e])]; rfl
  · rw [if_neg e, List.find?_cons_of_neg (by simp; exact fun h => e h.symm)]
theorem page_sum (ψ : Int → Int) : ∀ {q : List Wt}, PD q → (∀ x, x ∈ q → 0 ≤ x.p ∧ x.p < 1024) → pageS (mapQ q) ψ 1024 = (q.map fun x => ψ x.s).sum
  | [], _, _ => pageS_no ψ 1024
  | x :: q, hd, hr => by
    obtain ⟨h1, h2⟩ := List.pairwise_cons.1 hd
    obtain ⟨p0, p1⟩ := hr x (List.mem_cons_self ..)
    have hn : mapQ q x.p = none := by
      unfold mapQ
      rw [findW_none.2 fun y hy e => h1 y hy e.symm]; rfl
    rw [mapQ_cons, pageS_put ψ p0 p1 hn, page_sum ψ h2 fun y hy => hr y (List.mem_cons_of_mem _ hy), List.map_cons, List.sum_cons, Int.add_comm]
theorem pd_len {q : List Wt} (hd : PD q) (hr : ∀ x, x ∈ q → 0 ≤ x.p ∧ x.p < 1024) : q.length ≤ 1024 := by
  have h1 := page_sum (fun _ => 1) hd hr
  have h2 := (pageS_bd (m := mapQ q) (ψ := fun _ => 1) (B := 1) (by omega) (fun _ _ _ => by omega) 1024).2
  have h3 : ∀ l : List Wt, (l.map fun _ => (1 : Int)).sum = (l.length : Int) := fun l => by
    induction l with
    | nil => rfl
    | cons x l ih => rw [List.map_cons, List.sum_cons, ih, List.length_cons]; omega
  rw [h3] at h1
  omega
theorem last_is {V : List PU} (hok : ∀ u, u ∈ V → OkU u) (hg : Good V) {u : PU} (hu : u ∈ V) (hf : ∀ v, v ∈ V → v.f ≤ u.t) : lastF no V u.p = some u.t := by
  obtain ⟨i, hi, rfl⟩ := List.mem_iff_getElem.1 hu
  have e : use V i = V[i] := by unfold use; rw [List.getD_eq_getElem?_getD, List.getElem?_eq_getElem hi]; rfl
  obtain ⟨t, h1, h2⟩ := last_max hok V.length (by rw [List.take_length]; exact hg) i hi hi
  obtain ⟨j, j1, j2, j3, j4⟩ := last_from V.length _ t h1
  rw [List.take_length, e] at h1
  rw [e] at h2 j3
  rw [h1]
  congr 1
  have hgt : Good (V.take V.length) := by rw [List.take_length]; exact hg
  rcases Nat.lt_trichotomy i j with h3 | h3 | h3
  · have := (good_at hgt h3 j1 j2).2 (by rw [e, j3])
    have h4 := hf _ (use_mem j2)
    rw [e] at this
    omega
  · subst h3; rw [← j4, e]
  · have := (good_at hgt h3 hi hi).2 (by rw [e, j3])
    rw [e, j4] at this
    have h4 := (hok _ hu).ft
    omega

structure AB (h w τ : Int) (V : List PU) (st : PS) : Prop where
  n : st.1 = (firstsF no V : Int) * w + ((rawF no V).map fun g => (g.t - g.f) * h).sum
  q : ∀ s p, (⟨s, p⟩ : Wt) ∈ st.2 ↔ (lastF no V p = some s ∧ s ≤ τ)
theorem AB.bg {h w τ : Int} {V : List PU} {st : PS} (H : AB h w τ V st) {u : PU} (hτ : τ < u.f) (hut : u.f < u.t) (hv : ∀ s, lastF no V u.p = some s → s ≤ τ) : AB h w τ (V ++ [u]) (Py.bg h w st u.f u.p) := by
  have hq : ∀ s p, (⟨s, p⟩ : Wt) ∈ (Py.bg h w st u.f u.p).2 ↔ (lastF no (V ++ [u]) p = some s ∧ s ≤ τ) := fun s p => by
    show _ ∈ delW u.p st.2 ↔ _
    rw [mem_delW, H.q, lastF_add]
    unfold upd
    by_cases e : p = u.p
    · rw [if_pos e]
      constructor
      · rintro ⟨_, h⟩; exact absurd e h
      · rintro ⟨h1, h2⟩; injection h1 with h1; omega
    · rw [if_neg e]
      exact ⟨fun h => h.1, fun h => ⟨h, e⟩⟩
  refine ⟨?_, hq⟩
  rw [firstsF_add, rawF_add, sum_append', Int.natCast_add, Int.add_mul]
  show st.1 + bgC h w u.f (findW u.p st.2) = _
  rw [H.n]
  cases e : findW u.p st.2 with
  | none =>
    have hn : lastF no V u.p = none := by
      cases e2 : lastF no V u.p with
      | none => rfl
      | some s => exact absurd rfl (findW_none.1 e ⟨s, u.p⟩ ((H.q s u.p).2 ⟨e2, hv s e2⟩))
    unfold gapM
    rw [hn, if_pos rfl]
    show _ + w = _
    simp
    omega
  | some x =>
    obtain ⟨h1, h2⟩ := findW_some e
    obtain ⟨xs, xp⟩ := x
    have h2 : xp = u.p := h2
    subst h2
    have hs := ((H.q xs u.p).1 h1).1
    unfold gapM
    rw [hs, if_neg (by simp)]
    show _ + (u.f - xs) * h = _
    simp
    omega
where sum_append' {f : PU → Int} {a b : List PU} : ((a ++ b).map f).sum = (a.map f).sum + (b.map f).sum := by rw [List.map_append, List.sum_append]
theorem AB.beg {h w τ t : Int} (hlt : τ < t) : ∀ (B V : List PU) (st : PS), AB h w τ V st → (∀ u, u ∈ B → u.f = t ∧ u.f < u.t) → Good (V ++ B) → (∀ v, v ∈ V ++ B → v.t < t → v.t ≤ τ) → AB h w τ (V ++ B) (Py.beg h w (B.map bgS) st)
  | [], V, st, H, _, _, _ => by rw [List.append_nil]; exact H
  | u :: B, V, st, H, hB, hg, hno => by
    obtain ⟨hf, ht⟩ := hB u (List.mem_cons_self ..)
    have e : V ++ u :: B = (V ++ [u]) ++ B := by simp
    rw [e] at hg hno ⊢
    show AB h w τ _ (Py.beg h w (B.map bgS) (Py.bg h w st u.f u.p))
    refine AB.beg hlt B (V ++ [u]) _ (H.bg (by omega) ht fun s hs => ?_) (fun v hv => hB v (List.mem_cons_of_mem _ hv)) hg hno
    rw [← List.take_length (l := V)] at hs
    obtain ⟨j, j1, j2, j3, j4⟩ := last_from _ _ _ hs
    have hm := use_mem j2
    have h1 := ((good_snoc V u).1 (List.Pairwise.sublist (List.sublist_append_left _ _) hg)).2 _ hm
    have h2 := h1.2 j3
    rw [← j4]
    exact hno _ (List.mem_append_left _ (List.mem_append_left _ hm)) (by omega)
theorem most_all {L : List PU} {S : List St} (hL : OkL L) (hS : IsS L S) {h w : Int} {lim : Nat} (hlim : 1024 ≤ lim) : mostV L S h w lim = agedV L h w 1000000000 := by
  obtain ⟨τ, hle, H, I⟩ := tick_ind hL hS h w lim (fun τ st => AB h w τ (begun L τ) st) ⟨by rw [begun_none hL]; simp [firstsF, rawF], fun s p => by rw [begun_none hL]; simp [lastF]⟩ (by
    intro τ t st hlt hno I H
    have hb := begun_split hlt (good_f hL.good) (steps_f hS hno)
    have hgt : Good (begun L t) := List.Pairwise.filter _ hL.good
    have hbeg : AB h w τ (begun L t) (Py.beg h w (Bt S t) st) := by
      rw [Bt_is hL hS, hb]
      refine AB.beg hlt (begun1 L t) (begun L τ) st H (fun u hu => ?_) (by rw [← hb]; exact hgt) (fun v hv h1 => ?_)
      · obtain ⟨h1, h2⟩ := List.mem_filter.1 hu
        exact ⟨by simpa using h2, (hL.ok u h1).ft⟩
      · rw [← hb] at hv
        have := steps_t hS hno v (List.mem_filter.1 hv).1
        omega
    obtain ⟨I2, pd, _⟩ := I.tick hL hS h w hlt hno
    have hpg : ∀ x, x ∈ (en (Et S t) (Py.beg h w (Bt S t) st)).2 → 0 ≤ x.p ∧ x.p < 1024 := fun x hx => by
      rcases List.mem_append.1 hx with h1 | h1
      · obtain ⟨_, u, hu, e, _⟩ := I.from_ x ((beg_sub h w _ st).subset h1)
        have := hL.ok u hu
        rw [← e]; exact ⟨this.p0, this.p1⟩
      · obtain ⟨s, hs, rfl⟩ := List.mem_map.1 h1
        obtain ⟨u, hu, _, rfl⟩ := (Et_mem hS).1 hs
        have := hL.ok u hu
        exact ⟨this.p0, this.p1⟩
    have hpop : tickP h w lim S t st = en (Et S t) (Py.beg h w (Bt S t) st) := popN_id h t (Nat.le_trans (pd_len pd hpg) hlim)
    rw [hpop]
    refine ⟨hbeg.n, fun s p => ?_⟩
    show _ ∈ (Py.beg h w (Bt S t) st).2 ++ _ ↔ _
    rw [List.mem_append, hbeg.q]
    constructor
    · rintro (⟨h1, h2⟩ | h1)
      · exact ⟨h1, by omega⟩
      · obtain ⟨s', hs, e⟩ := List.mem_map.1 h1
        obtain ⟨u, hu, hut, rfl⟩ := (Et_mem hS).1 hs
        injection e with e1 e2
        have e1 : u.t = s := e1
        have e2 : u.p = p := e2
        subst e1; subst e2
        have hm : u ∈ begun L t := List.mem_filter.2 ⟨hu, by have := (hL.ok u hu).ft; simp; omega⟩
        refine ⟨last_is (fun v hv => hL.ok v (List.mem_filter.1 hv).1) hgt hm fun v hv => ?_, by omega⟩
        have := (List.mem_filter.1 hv).2
        simp at this
        omega
    · rintro ⟨h1, h2⟩
      by_cases e : s ≤ τ
      · exact .inl ⟨h1, e⟩
      · right
        have hs := h1
        rw [← List.take_length (l := begun L t)] at hs
        obtain ⟨j, j1, j2, j3, j4⟩ := last_from _ _ _ hs
        have hm : use (begun L t) j ∈ L := (List.mem_filter.1 (use_mem j2)).1
        have := steps_t hS hno _ hm
        refine List.mem_map.2 ⟨enS (use (begun L t) j), (Et_mem hS).2 ⟨_, hm, by omega, rfl⟩, ?_⟩
        show (⟨(use (begun L t) j).t, (use (begun L t) j).p⟩ : Wt) = _
        rw [j3, j4])
  unfold mostV
  rw [begun_all hL hle] at H
  have hpd := I.pd
  have hn := H.n
  have hq := H.q
  have hfr := I.from_
  generalize runP h w lim S (0, []) = st at *
  obtain ⟨n, q⟩ := st
  dsimp only at hpd hn hq hfr ⊢
  have he := endV_le hL.ok
  have hmq : mapQ q = lastF no L := by
    funext p
    unfold mapQ
    cases e : findW p q with
    | none =>
      cases e2 : lastF no L p with
      | none => rfl
      | some s =>
        have hs := e2
        rw [← List.take_length (l := L)] at hs
        obtain ⟨j, j1, j2, j3, j4⟩ := last_from _ _ _ hs
        have h4 := endV_ge (use_mem j2)
        exact absurd rfl (findW_none.1 e ⟨s, p⟩ ((hq s p).2 ⟨e2, by omega⟩))
    | some x =>
      obtain ⟨h1, h2⟩ := findW_some e
      obtain ⟨xs, xp⟩ := x
      have h2 : xp = p := h2
      subst h2
      rw [((hq xs xp).1 h1).1]; rfl
  have hrest : restS h (endV L) q = pageS (lastF no L) (tailC h 1000000000 (endV L)) 1024 := by
    rw [← hmq, page_sum _ hpd fun x hx => by
      obtain ⟨_, u, hu, e, _⟩ := hfr x hx
      have := hL.ok u hu
      rw [← e]; exact ⟨this.p0, this.p1⟩]
    unfold restS
    congr 1
    apply List.map_congr_left
    intro x hx
    obtain ⟨_, u, hu, _, e⟩ := hfr x hx
    have h1 := hL.ok u hu
    have h2 := h1.f0; have h3 := h1.ft; have h4 := endV_ge hu
    unfold tailC
    rw [show min 1000000000 (endV L - x.s) = endV L - x.s by omega]
  rw [hn, hrest, aged_pages hL]
  congr 2
  rw [perm_sum _ ((raw_ref L).trans (gapsV_perm L).symm)]
  congr 1
  apply List.map_congr_left
  intro g hg
  have hok := ok_gaps hL hg
  have t1 := hok.t1; have f0 := hok.f0
  unfold gapC
  rw [if_pos (by omega)]
end Go.Proofs.Ytnkkhbmbbkmfhaa.Py
