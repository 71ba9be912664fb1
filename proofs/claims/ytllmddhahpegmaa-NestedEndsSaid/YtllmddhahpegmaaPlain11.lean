/- What End leaves: the law of NestedEnds. -/
import Derived.Test.YtllmddhahpegmaaPlain10
namespace Go.Proofs.Ytllmddhahpegmaa
namespace Ne

theorem Under.empty {M : Tr} (h : Good M) {k : Int} (hf : find M k = none) {m : Nat} {L : List Nat} (hL : Under M k m L) : L = [] := by
  cases L with
  | nil => rfl
  | cons i l =>
    obtain ⟨_, ho, h0, hA⟩ := (hL.2 i).1 List.mem_cons_self
    obtain ⟨q, hq⟩ := anc_opn h hA ho
    unfold find at hf
    rw [if_neg (by omega), hq] at hf
    cases hf

theorem stop_err {M : Tr} (h : Good M) {F : Nat} {k : Int} {M' : Tr} {e : Int} (he : stopAt M F k = (M', e)) (hne : e ≠ 0) {m : Nat} {L : List Nat} (hL : Under M k m L) : M' = M ∧ (k = 0 ∨ (e = 4 ∧ L = [])) := by
  unfold stopAt at he
  cases hf : find M k with
  | none =>
    rw [hf] at he
    injection he with h1 h2
    exact ⟨h1.symm, .inr ⟨h2.symm, hL.empty h hf⟩⟩
  | some n =>
    rw [hf] at he
    dsimp only at he
    split at he
    · injection he with h1 h2
      exact ⟨h1.symm, .inl (by assumption)⟩
    · split at he
      · split at he
        · injection he with h1 h2; exact absurd h2.symm hne
        · injection he with h1 h2; exact absurd h2.symm hne
      · injection he with h1 h2; exact absurd h2.symm hne

theorem stop_pos {M : Tr} {F : Nat} {k : Int} {M' : Tr} (he : stopAt M F k = (M', 0)) : 0 ≤ k := by
  unfold stopAt at he
  cases hf : find M k with
  | none => rw [hf] at he; injection he with _ h2; exact absurd h2 (by decide)
  | some n => exact (find_some hf).1

/-- Of an arena that stays: what becomes of an item. -/
def ItemStays (k : Int) (m : List Item) (j : Nat) (x : Item) : Prop :=
  (∀ y, m[j]? = some y → (y = x ∧ x.c ≠ k) ∨ (x.c = k ∧ y.a = x.a ∧ y.s = x.s ∧ y.c = -2)) ∧ (m.length ≤ j → x.c = k ∨ x.c = -2)

theorem ends_law {M : Tr} (h : Good M) {F : Nat} (hF : Big M F) {k : Int} {M' : Tr} (he : stopAt M F k = (M', 0)) {L : List Nat} (hL : Under M k M.length L) (i : Nat) (a : Node) (hi : M[i]? = some (some a)) :
    (i ∈ L ∧ ∀ b, M'[i]? ≠ some (some b)) ∨ (i ∉ L ∧ ∃ b, M'[i]? = some (some b) ∧ b.a = a.a ∧ b.s = a.s ∧ b.p = a.p ∧ b.l.length ≤ a.l.length ∧ ∀ j x, a.l[j]? = some x → ItemStays k b.l j x) := by
  obtain ⟨d, D, hr, hD⟩ := hF
  unfold stopAt at he
  cases hf : find M k with
  | none => rw [hf] at he; injection he with _ h2; exact absurd h2 (by decide)
  | some n =>
    obtain ⟨h0, hk⟩ := find_some hf
    rw [hf] at he
    dsimp only at he
    split at he
    · injection he with _ h2; exact absurd h2 (by decide)
    next hk0 =>
    obtain ⟨k, rfl⟩ := Int.eq_ofNat_of_zero_le h0
    rw [Int.toNat_natCast] at hk
    obtain ⟨hp0, q, x, hq, hx, hxc, _⟩ := stop_finds h hk (by omega)
    rw [hq] at he
    dsimp only at he
    rw [hx] at he
    injection he with he _
    obtain ⟨p, hp⟩ := Int.eq_ofNat_of_zero_le hp0
    rw [hp, Int.toNat_natCast] at hq he
    have hsub : [x].Sublist q.l := List.singleton_sublist.2 (List.mem_of_getElem? hx)
    have hO := fun j b => prune_open h hr hq hsub (F := F) (by omega) j b
    have hgone : ∀ j, Gone M [x] j ↔ Anc M j k := by
      intro j
      constructor
      · rintro ⟨y, hy, _, hA⟩
        rw [List.mem_singleton] at hy
        subst hy
        rwa [hxc, Int.toNat_natCast] at hA
      · intro hA
        exact ⟨x, List.mem_singleton.2 rfl, by omega, by rw [hxc, Int.toNat_natCast]; exact hA⟩
    have hin : i ∈ L ↔ Anc M i k := by
      rw [hL.2, Int.toNat_natCast]
      exact ⟨fun e => e.2.2.2, fun e => ⟨(List.getElem?_eq_some_iff.1 hi).1, ⟨a, hi⟩, by omega, e⟩⟩
    have hpn := not_gone h hr hq hsub
    have hpl : p < (trim (shut F M [x])).length := (List.getElem?_eq_some_iff.1 ((hO p q).2 ⟨hq, hpn⟩)).1
    subst he
    by_cases hA : Anc M i k
    · left
      refine ⟨hin.2 hA, fun b hb => ?_⟩
      have hne : p ≠ i := fun e => by subst e; exact hpn ((hgone p).2 hA)
      rw [List.getElem?_set_ne hne] at hb
      exact ((hO i b).1 hb).2 ((hgone i).2 hA)
    · right
      refine ⟨fun e => hA (hin.1 e), ?_⟩
      by_cases e : p = i
      · subst e
        rw [hq] at hi
        injection hi with hi; injection hi with hi
        subst hi
        refine ⟨_, List.getElem?_set_self hpl, rfl, rfl, rfl, ?_, ?_⟩
        · have := (tidy_sub (q.l.set (placeOf q k) (asHole x))).length_le
          simpa using this
        · intro j y hy
          obtain ⟨m, hm, htk, hback, _⟩ := tidy_prefix (q.l.set (placeOf q k) (asHole x))
          have hne : j ≠ placeOf q k → y.c ≠ (k : Int) := by
            intro hjp hyc
            have hun := List.pairwise_iff_getElem.1 (h.node _ _ hq).uniq
            obtain ⟨l1, e1⟩ := List.getElem?_eq_some_iff.1 hy
            obtain ⟨l2, e2⟩ := List.getElem?_eq_some_iff.1 hx
            rcases Nat.lt_or_ge j (placeOf q k) with hlt | hge
            · have := hun j (placeOf q k) l1 l2 hlt (by rw [e1]; omega)
              rw [e1, e2] at this
              omega
            · have := hun (placeOf q k) j l2 l1 (by omega) (by rw [e2]; omega)
              rw [e1, e2] at this
              omega
          have hjl : j < q.l.length := (List.getElem?_eq_some_iff.1 hy).1
          refine ⟨fun z hz => ?_, fun hlen => ?_⟩
          · dsimp only at hz
            rw [htk, List.getElem?_take] at hz
            split at hz
            · by_cases hjp : j = placeOf q k
              · rw [hjp, List.getElem?_set_self (by rw [← hjp]; exact hjl)] at hz
                injection hz with hz
                rw [hjp, hx] at hy
                injection hy with hy
                subst hy hz
                exact .inr ⟨hxc, rfl, rfl, rfl⟩
              · rw [List.getElem?_set_ne (Ne.symm hjp), hy] at hz
                injection hz with hz
                exact .inl ⟨hz.symm, hne hjp⟩
            · cases hz
          · dsimp only at hlen
            rw [htk, List.length_take, Nat.min_eq_left hm] at hlen
            by_cases hjp : j = placeOf q k
            · rw [hjp, hx] at hy
              injection hy with hy
              subst hy
              exact .inl hxc
            · exact .inr (hback j y hlen (by rw [List.getElem?_set_ne (Ne.symm hjp)]; exact hy))
      · refine ⟨a, by rw [List.getElem?_set_ne e]; exact (hO i a).2 ⟨hi, fun hg => hA ((hgone i).1 hg)⟩, rfl, rfl, rfl, Nat.le_refl _, fun j y hy => ?_⟩
        have hyc : y.c ≠ (k : Int) := by
          intro hyc
          obtain ⟨z, hz, hzp, _⟩ := h.kid hi (List.mem_of_getElem? hy) (by omega)
          rw [hyc, Int.toNat_natCast, hk] at hz
          injection hz with hz; injection hz with hz
          subst hz
          omega
        refine ⟨fun z hz => ?_, fun hlen => ?_⟩
        · rw [hy] at hz
          injection hz with hz
          exact .inl ⟨hz.symm, hyc⟩
        · have := (List.getElem?_eq_some_iff.1 hy).1
          omega
end Ne
end Go.Proofs.Ytllmddhahpegmaa
