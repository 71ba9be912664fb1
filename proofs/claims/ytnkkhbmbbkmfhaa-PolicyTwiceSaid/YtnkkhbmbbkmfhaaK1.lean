/- Plain: the next use, the first one. Plain: gaps that are kept, the best age, the best set. Plain: the costs as they are added up. Plain: a trace on which an age does badly. -/
import Derived.Test.YtnkkhbmbbkmfhaaK0
namespace Go.Proofs.Ytnkkhbmbbkmfhaa.Py

def nxt (p : Int) : List PU → Nat → Int
  | [], _ => -1
  | u :: L, k => if u.p = p then (k : Int) else nxt p L (k + 1)
theorem nxt_cons (p : Int) (u : PU) (L : List PU) (k : Nat) : nxt p (u :: L) k = if u.p = p then (k : Int) else nxt p L (k + 1) := rfl
theorem nxt_spec (p : Int) : ∀ (L : List PU) (k : Nat), (nextOf p L = none ∧ nxt p L k = -1) ∨ ∃ d v, nextOf p L = some v ∧ L[d]? = some v ∧ nxt p L k = ((k + d : Nat) : Int)
  | [], k => .inl ⟨rfl, rfl⟩
  | u :: L, k => by
    unfold nxt
    by_cases h : u.p = p
    · rw [if_pos h, nextOf_cons_eq h]
      exact .inr ⟨0, u, rfl, rfl, rfl⟩
    · rw [if_neg h, nextOf_cons_ne h]
      rcases nxt_spec p L (k + 1) with h1 | ⟨d, v, h1, h2, h3⟩
      · exact .inl h1
      · exact .inr ⟨d + 1, v, h1, h2, by rw [h3]; omega⟩
abbrev nextI (L : List PU) (i : Nat) : Int := nxt (use L i).p (L.drop (i + 1)) (i + 1)
theorem nextI_spec (L : List PU) (i : Nat) : (nextOf (use L i).p (L.drop (i + 1)) = none ∧ nextI L i = -1) ∨ ∃ m : Nat, nextOf (use L i).p (L.drop (i + 1)) = some (use L m) ∧ i < m ∧ m < L.length ∧ nextI L i = (m : Int) := by
  rcases nxt_spec (use L i).p (L.drop (i + 1)) (i + 1) with h1 | ⟨d, v, h1, h2, h3⟩
  · exact .inl h1
  · rw [List.getElem?_drop] at h2
    have hl := (List.getElem?_eq_some_iff.1 h2).1
    rw [use_get hl] at h2
    injection h2 with h2
    exact .inr ⟨i + 1 + d, by rw [h1, h2], by omega, hl, h3⟩
def firstB (L : List PU) (i : Nat) : Bool := (L.take i).all fun v => !decide (v.p = (use L i).p)
theorem last_none {L : List PU} : ∀ (k : Nat) (p : Int), lastF no (L.take k) p = none ↔ ∀ v, v ∈ L.take k → v.p ≠ p
  | 0, p => by simp [lastF]
  | k + 1, p => by
    rcases Nat.lt_or_ge k L.length with hk | hk
    · rw [take_next (use_get hk), lastF_add]
      unfold upd
      by_cases h : p = (use L k).p
      · rw [if_pos h]
        constructor
        · intro e; cases e
        · intro e; exact absurd h.symm (e _ (List.mem_append_right _ (List.mem_singleton.2 rfl)))
      · rw [if_neg h, last_none k p]
        constructor
        · intro e v hv
          rcases List.mem_append.1 hv with hv | hv
          · exact e v hv
          · rw [List.mem_singleton.1 hv]; exact fun e => h e.symm
        · intro e v hv; exact e v (List.mem_append_left _ hv)
    · have e : L.take (k + 1) = L.take k := by rw [List.take_of_length_le (by omega), List.take_of_length_le hk]
      rw [e]; exact last_none k p
theorem firstB_is (L : List PU) (i : Nat) : firstB L i = decide (lastF no (L.take i) (use L i).p = none) := by
  rw [Bool.eq_iff_iff, decide_eq_true_eq, last_none]
  unfold firstB
  rw [List.all_eq_true]
  simp
theorem firsts_next {L : List PU} {k : Nat} (hk : k < L.length) : firsts (L.take (k + 1)) = firsts (L.take k) + (if firstB L k = true then 1 else 0) := by
  show firstsF no _ = firstsF no _ + _
  rw [take_next (use_get hk), firstsF_add, firstB_is]
  simp only [decide_eq_true_eq]
theorem firsts_take_le {L : List PU} (k : Nat) : firsts (L.take k) ≤ k := by
  have := firsts_le (L.take k)
  rw [List.length_take] at this; omega
/-- What the specification adds for one use. -/
def termV (φ ψ : PU → Int) (L : List PU) (i : Nat) : Int := match nextOf (use L i).p (L.drop (i + 1)) with
  | some v => φ ⟨(use L i).p, (use L i).t, v.f⟩
  | none => ψ (use L i)
theorem sumTl_drop (φ ψ : PU → Int) {L : List PU} {k : Nat} (hk : k < L.length) : sumTl φ ψ (L.drop k) = termV φ ψ L k + sumTl φ ψ (L.drop (k + 1)) := by
  rw [drop_next (use_get hk)]; rfl
theorem sumTl_bd {φ ψ : PU → Int} {B : Int} (hφ : ∀ g, OkG g → 0 ≤ φ g ∧ φ g ≤ B) : ∀ {L : List PU}, OkL L → (∀ u, u ∈ L → 0 ≤ ψ u ∧ ψ u ≤ B) → 0 ≤ sumTl φ ψ L ∧ sumTl φ ψ L ≤ B * (L.length : Int)
  | [], _, _ => by simp [sumTl]
  | u :: L, h, hψ => by
    have ih := sumTl_bd hφ h.tail fun v hv => hψ v (List.mem_cons_of_mem _ hv)
    have e : B * ((u :: L).length : Int) = B * (L.length : Int) + B := by
      rw [List.length_cons, Int.natCast_add, Int.mul_add]; simp
    rw [e]
    show 0 ≤ _ + sumTl φ ψ L ∧ _ + sumTl φ ψ L ≤ _
    cases en : nextOf u.p L with
    | none => have := hψ u (List.mem_cons_self ..); dsimp only; omega
    | some v =>
      have hg : OkG ⟨u.p, u.t, v.f⟩ := ok_raw h (by
        show _ ∈ nextG u L ++ refRaw L
        unfold nextG; rw [en]; exact List.mem_append_left _ (List.mem_singleton.2 rfl))
      have := hφ _ hg
      dsimp only; omega
theorem term_ok {L : List PU} (h : OkL L) {i m : Nat} (hi : i < L.length) (_hm : m < L.length) (hn : nextOf (use L i).p (L.drop (i + 1)) = some (use L m)) : OkG ⟨(use L i).p, (use L i).t, (use L m).f⟩ := by
  refine ok_raw (h.drop i) ?_
  rw [drop_next (use_get hi)]
  show _ ∈ nextG _ _ ++ _
  unfold nextG; rw [hn]; exact List.mem_append_left _ (List.mem_singleton.2 rfl)
theorem endV_take {L : List PU} {k : Nat} (hk : k < L.length) : endV (L.take (k + 1)) = max (endV (L.take k)) (use L k).t := by
  rw [take_next (use_get hk), endV_add]
end Go.Proofs.Ytnkkhbmbbkmfhaa.Py
namespace Go.Proofs.Ytnkkhbmbbkmfhaa.Py

def saved (h w : Int) (g : PU) : Int := w - (g.t - g.f) * h
/-- What keeping some of the first gaps saves. -/
def savS (h w : Int) (G : List PU) (K : List Nat) : Nat → Int
  | 0 => 0
  | k + 1 => savS h w G K k + if k ∈ K then saved h w (use G k) else 0
def keptS (h w : Int) (G : List PU) (K : List Nat) : Nat → Int
  | 0 => 0
  | k + 1 => keptS h w G K k + if k ∈ K then ((use G k).t - (use G k).f) * h else w
def keptV (L : List PU) (h w : Int) (K : List Nat) : Int := (firsts L : Int) * w + keptS h w (gapsV L) K (gapsV L).length
theorem kept_sav (h w : Int) (G : List PU) (K : List Nat) : ∀ k : Nat, keptS h w G K k = (k : Int) * w - savS h w G K k
  | 0 => by simp [keptS, savS]
  | k + 1 => by
    show keptS h w G K k + _ = ((k + 1 : Nat) : Int) * w - (savS h w G K k + _)
    have e : ((k + 1 : Nat) : Int) * w = (k : Int) * w + w := by rw [Int.natCast_add, Int.add_mul]; simp
    rw [kept_sav h w G K k, e]
    unfold saved
    split <;> omega
theorem keptV_is (L : List PU) (h w : Int) (K : List Nat) : keptV L h w K = (L.length : Int) * w - savS h w (gapsV L) K (gapsV L).length := by
  unfold keptV
  rw [kept_sav, ← firsts_gaps L, Int.natCast_add, Int.add_mul]; omega
def leastL (h w : Int) (G : List PU) (k : Nat) : List Nat := (List.range k).filter fun i => decide (0 ≤ saved h w (use G i))
def leastS (h w : Int) (G : List PU) : Nat → Int
  | 0 => 0
  | k + 1 => leastS h w G k + if 0 ≤ saved h w (use G k) then saved h w (use G k) else 0
def leastV (L : List PU) (h w : Int) : Int := (L.length : Int) * w - leastS h w (gapsV L) (gapsV L).length
theorem leastL_succ (h w : Int) (G : List PU) (k : Nat) : leastL h w G (k + 1) = if 0 ≤ saved h w (use G k) then leastL h w G k ++ [k] else leastL h w G k := by
  unfold leastL
  rw [List.range_succ, List.filter_append]
  split
  · next e => rw [List.filter_cons, if_pos (by simpa using e)]; rfl
  · next e => rw [List.filter_cons, if_neg (by simpa using e)]; simp
theorem mem_leastL {h w : Int} {G : List PU} {k i : Nat} : i ∈ leastL h w G k ↔ i < k ∧ 0 ≤ saved h w (use G i) := by
  unfold leastL; rw [List.mem_filter, List.mem_range]; simp
theorem savS_same {h w : Int} {G : List PU} {K K' : List Nat} : ∀ k : Nat, (∀ i, i < k → (i ∈ K ↔ i ∈ K')) → savS h w G K k = savS h w G K' k
  | 0, _ => rfl
  | k + 1, hk => by
    show savS h w G K k + _ = savS h w G K' k + _
    rw [savS_same k fun i hi => hk i (by omega)]
    have := hk k (by omega)
    by_cases e : k ∈ K
    · rw [if_pos e, if_pos (this.1 e)]
    · rw [if_neg e, if_neg fun h => e (this.2 h)]
theorem leastS_is (h w : Int) (G : List PU) (n : Nat) : ∀ k : Nat, k ≤ n → leastS h w G k = savS h w G (leastL h w G n) k
  | 0, _ => rfl
  | k + 1, hk => by
    show leastS h w G k + _ = savS h w G _ k + _
    rw [leastS_is h w G n k (by omega)]
    by_cases e : 0 ≤ saved h w (use G k)
    · rw [if_pos e, if_pos (mem_leastL.2 ⟨by omega, e⟩)]
    · rw [if_neg e, if_neg fun h => e (mem_leastL.1 h).2]
theorem least_kept (L : List PU) (h w : Int) : keptV L h w (leastL h w (gapsV L) (gapsV L).length) = leastV L h w := by
  rw [keptV_is]; unfold leastV; rw [leastS_is h w _ _ _ (Nat.le_refl _)]
theorem sav_least (h w : Int) (G : List PU) (K : List Nat) : ∀ k, savS h w G K k ≤ leastS h w G k
  | 0 => Int.le_refl _
  | k + 1 => by
    have ih := sav_least h w G K k
    show savS h w G K k + _ ≤ leastS h w G k + _
    split <;> split <;> omega
/-- No set of gaps costs less. -/
theorem kept_least (L : List PU) (h w : Int) (K : List Nat) : leastV L h w ≤ keptV L h w K := by
  rw [keptV_is]; unfold leastV
  have := sav_least h w (gapsV L) K (gapsV L).length
  omega
theorem saved_bd {h w : Int} (hc : OkC h w) {g : PU} (hg : OkG g) : -1000000000000 ≤ saved h w g ∧ saved h w g ≤ w ∧ 0 ≤ (g.t - g.f) * h ∧ (g.t - g.f) * h ≤ 1000000000000 := by
  have a := hg.ft; have b := hg.f0; have c := hg.t1; have d := hc.w0
  have := mul_bd (a := g.t - g.f) (b := h) (A := 1000000000) (B := 1000) (by omega) hc.h0 (by omega) hc.h1
  unfold saved
  omega
theorem use_okG {L : List PU} (hL : OkL L) {i : Nat} (hi : i < (gapsV L).length) : OkG (use (gapsV L) i) := ok_gaps hL (use_mem hi)
theorem keptS_bd {h w : Int} (hc : OkC h w) {G : List PU} (hG : ∀ g, g ∈ G → OkG g) (K : List Nat) : ∀ k : Nat, k ≤ G.length → 0 ≤ keptS h w G K k ∧ keptS h w G K k ≤ (k : Int) * 1001000000000
  | 0, _ => by simp [keptS]
  | k + 1, hk => by
    have ih := keptS_bd hc hG K k (by omega)
    have hb := saved_bd hc (hG _ (use_mem (L := G) (i := k) (by omega)))
    have h0 := hc.w0; have h1 := hc.w1
    have e : ((k + 1 : Nat) : Int) * 1001000000000 = (k : Int) * 1001000000000 + 1001000000000 := by omega
    rw [e]
    show 0 ≤ keptS h w G K k + _ ∧ keptS h w G K k + _ ≤ _
    split <;> omega
theorem kept_nn {L : List PU} (hL : OkL L) {h w : Int} (hc : OkC h w) (K : List Nat) : 0 ≤ keptV L h w K := by
  have := (keptS_bd hc (fun g hg => ok_gaps hL hg) K _ (Nat.le_refl _)).1
  have h2 := mul_bd (a := (firsts L : Int)) (b := w) (A := (firsts L : Int)) (B := w) (by omega) hc.w0 (by omega) (by omega)
  unfold keptV; omega
theorem leastS_bd {h w : Int} (hc : OkC h w) {G : List PU} (hG : ∀ g, g ∈ G → OkG g) : ∀ k : Nat, k ≤ G.length → 0 ≤ leastS h w G k ∧ leastS h w G k ≤ (k : Int) * w
  | 0, _ => by simp [leastS]
  | k + 1, hk => by
    have ih := leastS_bd hc hG k (by omega)
    have hb := saved_bd hc (hG _ (use_mem (L := G) (i := k) (by omega)))
    have h0 := hc.w0
    have e : ((k + 1 : Nat) : Int) * w = (k : Int) * w + w := by rw [Int.natCast_add, Int.add_mul]; simp
    rw [e]
    show 0 ≤ leastS h w G k + _ ∧ leastS h w G k + _ ≤ _
    split <;> omega

/-! The best age. -/
def tuneP (F : Int → Int) (A : List Int) (st : Int × Int) : Int × Int := A.foldl (fun st a => if st.2 < 0 ∨ F a < st.2 then (a, F a) else st) st
def tuneR (F : Int → Int) (A : List Int) (st : Int × Int) : Int × Int := A.foldl (fun st a => if F a < st.2 ∨ (F a = st.2 ∧ a < st.1) then (a, F a) else st) st
structure IsTune (F : Int → Int) (A : List Int) (st : Int × Int) : Prop where
  mem : st.1 ∈ A
  val : st.2 = F st.1
  best : ∀ b, b ∈ A → st.2 < F b ∨ (st.2 = F b ∧ st.1 ≤ b)
theorem IsTune.unique {F : Int → Int} {A A' : List Int} {x y : Int × Int} (hx : IsTune F A x) (hy : IsTune F A' y) (hA : ∀ a, a ∈ A ↔ a ∈ A') : x = y := by
  have h1 := hx.best y.1 ((hA _).2 hy.mem)
  have h2 := hy.best x.1 ((hA _).1 hx.mem)
  have h3 := hx.val
  have h4 := hy.val
  have e1 : x.1 = y.1 := by omega
  exact Prod.ext e1 (by rw [h3, h4, e1])
theorem tuneP_is {F : Int → Int} (hF : ∀ a, 0 ≤ F a) : ∀ (A B : List Int) (st : Int × Int), IsTune F B st → (∀ b, b ∈ B → ∀ a, a ∈ A → b ≤ a) → A.Pairwise (· ≤ ·) → IsTune F (B ++ A) (tuneP F A st)
  | [], B, st, h, _, _ => by rw [List.append_nil]; exact h
  | a :: A, B, st, h, hBA, hA => by
    obtain ⟨p1, p2⟩ := List.pairwise_cons.1 hA
    have e : B ++ a :: A = (B ++ [a]) ++ A := by simp
    rw [e]
    show IsTune F _ (tuneP F A (if st.2 < 0 ∨ F a < st.2 then (a, F a) else st))
    refine tuneP_is hF A (B ++ [a]) _ ?_ (fun b hb c hc => ?_) p2
    · have h0 := hF st.1
      have h1 := h.val
      split
      · next hlt =>
        refine ⟨List.mem_append_right _ (List.mem_singleton.2 rfl), rfl, fun b hb => ?_⟩
        rcases List.mem_append.1 hb with hb | hb
        · have := h.best b hb
          dsimp only; omega
        · rw [List.mem_singleton.1 hb]; exact .inr ⟨rfl, Int.le_refl _⟩
      · next hlt =>
        refine ⟨List.mem_append_left _ h.mem, h.val, fun b hb => ?_⟩
        rcases List.mem_append.1 hb with hb | hb
        · exact h.best b hb
        · rw [List.mem_singleton.1 hb]
          have := hBA st.1 h.mem a (List.mem_cons_self ..)
          omega
    · rcases List.mem_append.1 hb with hb | hb
      · exact hBA b hb c (List.mem_cons_of_mem _ hc)
      · rw [List.mem_singleton.1 hb]; exact p1 c hc
/-- The program's way: ages that ascend. -/
theorem tuneP_all {F : Int → Int} (hF : ∀ a, 0 ≤ F a) {A : List Int} (hA : A.Pairwise (· ≤ ·)) (hne : A ≠ []) : IsTune F A (tuneP F A (0, -1)) := by
  cases A with
  | nil => exact absurd rfl hne
  | cons a A =>
    obtain ⟨p1, p2⟩ := List.pairwise_cons.1 hA
    show IsTune F _ (tuneP F A (if (-1 : Int) < 0 ∨ F a < -1 then (a, F a) else (0, -1)))
    rw [if_pos (.inl (by omega))]
    refine tuneP_is hF A [a] _ ⟨List.mem_singleton.2 rfl, rfl, fun b hb => ?_⟩ (fun b hb c hc => ?_) p2
    · rw [List.mem_singleton.1 hb]; exact .inr ⟨rfl, Int.le_refl _⟩
    · rw [List.mem_singleton.1 hb]; exact p1 c hc
theorem tuneR_is {F : Int → Int} : ∀ (A B : List Int) (st : Int × Int), IsTune F B st → IsTune F (B ++ A) (tuneR F A st)
  | [], B, st, h => by rw [List.append_nil]; exact h
  | a :: A, B, st, h => by
    have e : B ++ a :: A = (B ++ [a]) ++ A := by simp
    rw [e]
    show IsTune F _ (tuneR F A (if F a < st.2 ∨ (F a = st.2 ∧ a < st.1) then (a, F a) else st))
    refine tuneR_is A (B ++ [a]) _ ?_
    split
    · next hlt =>
      refine ⟨List.mem_append_right _ (List.mem_singleton.2 rfl), rfl, fun b hb => ?_⟩
      rcases List.mem_append.1 hb with hb | hb
      · have := h.best b hb
        dsimp only; omega
      · rw [List.mem_singleton.1 hb]; exact .inr ⟨rfl, Int.le_refl _⟩
    · next hlt =>
      refine ⟨List.mem_append_left _ h.mem, h.val, fun b hb => ?_⟩
      rcases List.mem_append.1 hb with hb | hb
      · exact h.best b hb
      · rw [List.mem_singleton.1 hb]; omega
def lens (G : List PU) : List Int := G.map fun g => g.t - g.f
theorem tuneR_all (F : Int → Int) (G : List PU) : IsTune F (0 :: lens G) (tuneR F (lens G) (0, F 0)) :=
  tuneR_is (lens G) [0] (0, F 0) ⟨List.mem_singleton.2 rfl, rfl, fun b hb => by rw [List.mem_singleton.1 hb]; exact .inr ⟨rfl, Int.le_refl _⟩⟩
/-- What Tune says. -/
def tuneV (L : List PU) (h w : Int) : Int × Int := tuneR (agedV L h w) (lens (gapsV L)) (0, agedV L h w 0)

/-! The best set of gaps. -/
def many (G : List PU) (K : List Nat) (t : Int) : Nat := K.countP fun k => decide ((use G k).f ≤ t) && decide (t < (use G k).t)
def fitV (G : List PU) (K : List Nat) (n : Nat) : Bool := K.all fun i => decide (many G K (use G i).f ≤ n)
def manyP (G : List PU) (K : List Nat) (i : Nat) : Nat := (K.take (i + 1)).countP fun j => decide ((use G (K.getD i 0)).f < (use G j).t)
def fitP (G : List PU) (K : List Nat) (n : Nat) : Bool := (List.range K.length).all fun i => decide (manyP G K i ≤ n)
abbrev Asc (K : List Nat) : Prop := K.Pairwise (· < ·)
theorem kd_get {K : List Nat} {i : Nat} (h : i < K.length) : K[i]? = some (K.getD i 0) := by rw [List.getD_eq_getElem?_getD, List.getElem?_eq_getElem h]; rfl
theorem count_mono {α : Type} {p q : α → Bool} {l : List α} (h : ∀ x, x ∈ l → p x = true → q x = true) : l.countP p ≤ l.countP q := List.countP_mono_left h
theorem asc_f {G : List PU} (hG : G.Pairwise gle) {i j : Nat} (hij : i ≤ j) (hj : j < G.length) : (use G i).f ≤ (use G j).f := by
  rcases Nat.lt_or_eq_of_le hij with h | h
  · have := (List.pairwise_iff_getElem.1 hG) i j (by omega) hj h
    unfold use
    rw [List.getD_eq_getElem?_getD, List.getElem?_eq_getElem (by omega), List.getD_eq_getElem?_getD, List.getElem?_eq_getElem hj]
    unfold gle at this
    dsimp only [Option.getD_some]; omega
  · subst h; exact Int.le_refl _
theorem asc_get {K : List Nat} (hK : Asc K) {i j : Nat} (hij : i < j) (hj : j < K.length) : K.getD i 0 < K.getD j 0 := by
  have := (List.pairwise_iff_getElem.1 hK) i j (by omega) hj hij
  rw [List.getD_eq_getElem?_getD, List.getElem?_eq_getElem (by omega), List.getD_eq_getElem?_getD, List.getElem?_eq_getElem hj]
  exact this
theorem manyP_le {G : List PU} (hG : G.Pairwise gle) {K : List Nat} (hK : Asc K) (hb : ∀ k, k ∈ K → k < G.length) {i : Nat} (hi : i < K.length) : manyP G K i ≤ many G K (use G (K.getD i 0)).f := by
  unfold manyP many
  have h1 : (K.take (i + 1)).countP (fun j => decide ((use G (K.getD i 0)).f < (use G j).t)) ≤ (K.take (i + 1)).countP fun k => decide ((use G k).f ≤ (use G (K.getD i 0)).f) && decide ((use G (K.getD i 0)).f < (use G k).t) := by
    refine count_mono fun x hx hp => ?_
    obtain ⟨j, hj, rfl⟩ := List.mem_iff_getElem.1 hx
    rw [List.length_take] at hj
    have e : K.getD j 0 = (K.take (i + 1))[j]'(by rw [List.length_take]; omega) := by
      rw [List.getElem_take, List.getD_eq_getElem?_getD, List.getElem?_eq_getElem (by omega)]; rfl
    rw [← e] at hp ⊢
    have h2 : K.getD j 0 ≤ K.getD i 0 := by
      rcases Nat.lt_or_ge j i with h3 | h3
      · exact Nat.le_of_lt (asc_get hK h3 hi)
      · have : j = i := by omega
        subst this; exact Nat.le_refl _
    have h3 := asc_f hG h2 (hb _ (List.mem_of_getElem? (kd_get hi)))
    simp only [Bool.and_eq_true, decide_eq_true_eq] at hp ⊢
    exact ⟨h3, hp⟩
  have h2 : (K.take (i + 1)).countP (fun k => decide ((use G k).f ≤ (use G (K.getD i 0)).f) && decide ((use G (K.getD i 0)).f < (use G k).t)) ≤ K.countP fun k => decide ((use G k).f ≤ (use G (K.getD i 0)).f) && decide ((use G (K.getD i 0)).f < (use G k).t) := List.Sublist.countP_le (List.take_sublist _ _)
  omega
/-- The last of those that have it. -/
theorem exists_last {P : Nat → Prop} : ∀ (n i : Nat), i < n → P i → ∃ m, i ≤ m ∧ m < n ∧ P m ∧ ∀ j, m < j → j < n → ¬ P j
  | 0, i, h, _ => by omega
  | n + 1, i, h, hp => by
    by_cases hn : P n
    · exact ⟨n, by omega, by omega, hn, fun j h1 h2 => by omega⟩
    · have hi : i < n := by
        rcases Nat.lt_or_ge i n with h1 | h1
        · exact h1
        · have : i = n := by omega
          subst this; exact absurd hp hn
      obtain ⟨m, h1, h2, h3, h4⟩ := exists_last n i hi hp
      refine ⟨m, h1, by omega, h3, fun j h5 h6 => ?_⟩
      rcases Nat.lt_or_ge j n with h7 | h7
      · exact h4 j h5 h7
      · have : j = n := by omega
        subst this; exact hn
/-- Both ways of counting find the same sets fit. -/
theorem fit_same {G : List PU} (hG : G.Pairwise gle) {K : List Nat} (hK : Asc K) (hb : ∀ k, k ∈ K → k < G.length) (n : Nat) : fitP G K n = fitV G K n := by
  have key : fitP G K n = true ↔ fitV G K n = true := by
    unfold fitP fitV
    rw [List.all_eq_true, List.all_eq_true]
    simp only [List.mem_range, decide_eq_true_eq]
    constructor
    · intro h x hx
      obtain ⟨i, hi, rfl⟩ := List.mem_iff_getElem.1 hx
      have ei : K.getD i 0 = K[i] := by rw [List.getD_eq_getElem?_getD, List.getElem?_eq_getElem hi]; rfl
      rw [← ei]
      obtain ⟨m, h1, h2, h3, h4⟩ := exists_last (P := fun j => (use G (K.getD j 0)).f ≤ (use G (K.getD i 0)).f) K.length i hi (Int.le_refl _)
      have hm := h m h2
      refine Nat.le_trans ?_ hm
      have hf : (use G (K.getD i 0)).f = (use G (K.getD m 0)).f := by
        have := asc_f hG (i := K.getD i 0) (j := K.getD m 0) (by
          rcases Nat.lt_or_eq_of_le h1 with h5 | h5
          · exact Nat.le_of_lt (asc_get hK h5 h2)
          · subst h5; exact Nat.le_refl _) (hb _ (List.mem_of_getElem? (kd_get h2)))
        omega
      unfold many manyP
      rw [hf]
      rw [hf] at h3 h4
      have hz : (K.drop (m + 1)).countP (fun k => decide ((use G k).f ≤ (use G (K.getD m 0)).f) && decide ((use G (K.getD m 0)).f < (use G k).t)) = 0 := by
        rw [List.countP_eq_zero]
        intro x hx
        obtain ⟨j, hj, rfl⟩ := List.mem_iff_getElem.1 hx
        rw [List.length_drop] at hj
        have e : K.getD (m + 1 + j) 0 = (K.drop (m + 1))[j]'(by rw [List.length_drop]; omega) := by
          rw [List.getElem_drop, List.getD_eq_getElem?_getD, List.getElem?_eq_getElem (by omega)]; rfl
        have h5 := h4 (m + 1 + j) (by omega) (by omega)
        rw [e] at h5
        intro hc
        simp only [Bool.and_eq_true, decide_eq_true_eq] at hc
        exact h5 hc.1
      have e := List.take_append_drop (m + 1) K
      rw [show K.countP (fun k => decide ((use G k).f ≤ (use G (K.getD m 0)).f) && decide ((use G (K.getD m 0)).f < (use G k).t)) = (K.take (m + 1) ++ K.drop (m + 1)).countP (fun k => decide ((use G k).f ≤ (use G (K.getD m 0)).f) && decide ((use G (K.getD m 0)).f < (use G k).t)) by rw [e]]
      rw [List.countP_append, hz, Nat.add_zero]
      refine count_mono fun x _ hp => ?_
      simp only [Bool.and_eq_true] at hp
      exact hp.2
    · intro h i hi
      have := h (K.getD i 0) (List.mem_of_getElem? (kd_get hi))
      exact Nat.le_trans (manyP_le hG hK hb hi) this
  cases e1 : fitP G K n <;> cases e2 : fitV G K n <;> simp_all
end Go.Proofs.Ytnkkhbmbbkmfhaa.Py
namespace Go.Proofs.Ytnkkhbmbbkmfhaa.Py

def agedK (L : List PU) (h w age : Int) (k : Nat) : Int :=
  (firsts (L.take k) : Int) * w + (sumTl (gapC h w age) (fun u => tailC h age (endV L) u.t) L - sumTl (gapC h w age) (fun u => tailC h age (endV L) u.t) (L.drop k))
abbrev termA (L : List PU) (h w age : Int) (k : Nat) : Int := termV (gapC h w age) (fun u => tailC h age (endV L) u.t) L k
theorem agedK_0 (L : List PU) (h w age : Int) : agedK L h w age 0 = 0 := by
  unfold agedK
  rw [List.take_zero, List.drop_zero]
  show ((0 : Nat) : Int) * w + _ = 0
  simp
theorem agedK_next {L : List PU} {k : Nat} (hk : k < L.length) (h w age : Int) : agedK L h w age (k + 1) = agedK L h w age k + (if firstB L k = true then w else 0) + termA L h w age k := by
  unfold agedK
  rw [firsts_next hk, sumTl_drop _ _ hk]
  split
  · have e : ((firsts (L.take k) + 1 : Nat) : Int) * w = (firsts (L.take k) : Int) * w + w := by rw [Int.natCast_add, Int.add_mul]; simp
    rw [e]; unfold termA; omega
  · rw [Nat.add_zero]; unfold termA; omega
theorem agedK_all (L : List PU) (h w age : Int) : agedK L h w age L.length = agedV L h w age := by
  unfold agedK
  rw [aged_sumTl, List.take_length, List.drop_length]
  show _ + (_ - 0) = _
  omega
theorem term_bd {L : List PU} (hL : OkL L) {h w age : Int} (hc : OkC h w) (ha : 0 ≤ age) {k : Nat} (hk : k < L.length) : 0 ≤ termA L h w age k ∧ termA L h w age k ≤ 1001000000000 := by
  show 0 ≤ termV _ _ L k ∧ termV _ _ L k ≤ _
  unfold termV
  rcases nextI_spec L k with ⟨h1, _⟩ | ⟨m, h1, h2, h3, _⟩
  · rw [h1]
    have hu := hL.use hk
    have := tailC_bd (t := (use L k).t) hc ha (endV_le hL.ok) (by have := hu.f0; have := hu.ft; omega) (endV_ge (use_mem hk))
    dsimp only; omega
  · rw [h1]
    exact gapC_bd hc ha (term_ok hL hk h3 h1)
theorem agedK_bd {L : List PU} (hL : OkL L) {h w age : Int} (hc : OkC h w) (ha : 0 ≤ age) : ∀ k : Nat, k ≤ L.length → 0 ≤ agedK L h w age k ∧ agedK L h w age k ≤ (k : Int) * 1002000000000
  | 0, _ => by rw [agedK_0]; simp
  | k + 1, hk => by
    have ih := agedK_bd hL hc ha k (by omega)
    have ht := term_bd hL hc ha (k := k) (by omega)
    have h0 := hc.w0; have h1 := hc.w1
    rw [agedK_next (L := L) (k := k) (by omega)]
    have e : ((k + 1 : Nat) : Int) * 1002000000000 = (k : Int) * 1002000000000 + 1002000000000 := by omega
    rw [e]
    split <;> omega
theorem aged_nn {L : List PU} (hL : OkL L) {h w age : Int} (hc : OkC h w) (ha : 0 ≤ age) : 0 ≤ agedV L h w age ∧ agedV L h w age ≤ 200400000000000 := by
  have := agedK_bd hL hc ha L.length (Nat.le_refl _)
  rw [agedK_all] at this
  have := hL.len
  omega
/-- The first pages, as they are counted. -/
def firK (L : List PU) (w : Int) (k : Nat) : Int := (firsts (L.take k) : Int) * w
theorem firK_next {L : List PU} {k : Nat} (hk : k < L.length) (w : Int) : firK L w (k + 1) = firK L w k + (if firstB L k = true then w else 0) := by
  unfold firK
  rw [firsts_next hk]
  split
  · rw [Int.natCast_add, Int.add_mul]; simp
  · rw [Nat.add_zero, Int.add_zero]
theorem firK_bd {L : List PU} {w : Int} (h0 : 0 ≤ w) (h1 : w ≤ 1000000000) : ∀ k : Nat, k ≤ L.length → 0 ≤ firK L w k ∧ firK L w k ≤ (k : Int) * 1000000000
  | 0, _ => by
    have : firK L w 0 = 0 := by unfold firK; rw [List.take_zero]; show ((0 : Nat) : Int) * w = 0; simp
    rw [this]; simp
  | k + 1, hk => by
    have ih := firK_bd (L := L) h0 h1 k (by omega)
    rw [firK_next (L := L) (k := k) (by omega)]
    have e : ((k + 1 : Nat) : Int) * 1000000000 = (k : Int) * 1000000000 + 1000000000 := by omega
    rw [e]
    split <;> omega
theorem kept_K (L : List PU) (h w : Int) (K : List Nat) : keptV L h w K = firK L w L.length + keptS h w (gapsV L) K (gapsV L).length := by
  unfold keptV firK; rw [List.take_length]
end Go.Proofs.Ytnkkhbmbbkmfhaa.Py
namespace Go.Proofs.Ytnkkhbmbbkmfhaa.Py
def worstU (age : Int) (i : Nat) : PU := ⟨0, (i : Int) * (age + 2), (i : Int) * (age + 2) + 1⟩
def worstL (age : Int) (n : Nat) : List PU := (List.range n).map (worstU age)
theorem worstL_succ (age : Int) (n : Nat) : worstL age (n + 1) = worstL age n ++ [worstU age n] := by
  unfold worstL; rw [List.range_succ, List.map_append]; rfl
theorem worstL_len (age : Int) (n : Nat) : (worstL age n).length = n := by unfold worstL; simp
/-- What is wrong with what Worst is asked. -/
def worstE (h w age n : Int) : Int := if costV h w ≠ 0 ∨ age < 0 ∨ 1000000000 < age ∨ n < 1 ∨ 200 < n then 7 else if 1000000000 < 1 + (n - 1) * (age + 2) then 2 else 0
theorem worst_bd {age : Int} (h0 : 0 ≤ age) (h1 : age ≤ 1000000000) {i m : Nat} (h : i ≤ m) (hm : m ≤ 200) : 0 ≤ (i : Int) * (age + 2) ∧ (i : Int) * (age + 2) ≤ (m : Int) * (age + 2) ∧ (m : Int) * (age + 2) ≤ 200400000000 := by
  refine ⟨Int.mul_nonneg (by omega) (by omega), Int.mul_le_mul_of_nonneg_right (by omega) (by omega), ?_⟩
  have := (mul_bd (a := (m : Int)) (b := age + 2) (A := 200) (B := 1002000000) (by omega) (by omega) (by omega) (by omega)).2
  omega
theorem tune_snoc (F : Int → Int) (A : List Int) (a : Int) (st : Int × Int) : tuneR F (A ++ [a]) st = if F a < (tuneR F A st).2 ∨ (F a = (tuneR F A st).2 ∧ a < (tuneR F A st).1) then (a, F a) else tuneR F A st := by
  unfold tuneR; rw [List.foldl_append]; rfl
theorem tuneP_snoc (F : Int → Int) (A : List Int) (a : Int) (st : Int × Int) : tuneP F (A ++ [a]) st = if (tuneP F A st).2 < 0 ∨ F a < (tuneP F A st).2 then (a, F a) else tuneP F A st := by
  unfold tuneP; rw [List.foldl_append]; rfl
theorem lens_next {G : List PU} {k : Nat} (hk : k < G.length) : lens (G.take (k + 1)) = lens (G.take k) ++ [(use G k).t - (use G k).f] := by
  unfold lens; rw [take_next (use_get hk), List.map_append]; rfl
end Go.Proofs.Ytnkkhbmbbkmfhaa.Py
