/- What is done with an arena, and with what it gives, does not reach the rest: Rewind undoes it. -/
import Derived.Test.YtllmddhahpegmaaPlain7
namespace Go.Proofs.Ytllmddhahpegmaa
namespace Ne

def Opn (M : Tr) (i : Nat) : Prop := ∃ q, M[i]? = some (some q)

/-- M' comes of M by what was done with the arena k and with those that it gave. -/
structure Since (M M' : Tr) (k : Nat) (n : Node) : Prop where
  good : Good M'
  here : ∃ e : List Item, M'[k]? = some (some { n with l := n.l ++ e }) ∧ ∀ x ∈ e, 0 ≤ x.c → ¬ Opn M x.c.toNat
  old : ∀ (i : Nat) (q : Node), i ≠ k → M[i]? = some (some q) → M'[i]? = some (some q)
  new : ∀ (i : Nat) (q : Node), M'[i]? = some (some q) → ¬ Opn M i → ∃ p : Nat, q.p = (p : Int) ∧ (p = k ∨ ¬ Opn M p)

section
variable {M : Tr} (h : Good M) {d : Nat → Nat} {D : Nat} (hr : Ranked M d D) {i : Nat} {n : Node} (hi : M[i]? = some (some n)) {l : List Item} (hl : l.Sublist n.l) {F : Nat} (hF : D - d i < F)
include h hr hi hl hF
theorem prune_open (j : Nat) (k : Node) : (trim (shut F M l))[j]? = some (some k) ↔ M[j]? = some (some k) ∧ ¬ Gone M l j := by
  obtain ⟨_, s1, s2⟩ := shut_good h hr hi hl hF
  rw [trim_open]
  by_cases hg : Gone M l j
  · constructor
    · intro e
      by_cases hj : j < M.length
      · rw [s1 j hg hj] at e; cases e
      · obtain ⟨x, hx, h0, hA⟩ := hg
        obtain ⟨k', hk', _⟩ := h.kid hi (hl.subset hx) h0
        rcases hA.inv with e1 | ⟨p, k2, h1, _⟩
        · rw [← e1] at hk'; exact absurd (List.getElem?_eq_some_iff.1 hk').1 hj
        · exact absurd (List.getElem?_eq_some_iff.1 h1).1 hj
    · exact fun e => absurd hg e.2
  · rw [s2 j hg]
    exact ⟨fun e => ⟨e, hg⟩, fun e => e.1⟩
end

section
variable {M M' : Tr} {k : Nat} {n : Node} (h : Good M) (hi : M[k]? = some (some n))
include h hi
theorem Since.start : Since M M k n := ⟨h, ⟨[], by simpa using hi, by simp⟩, fun _ _ _ e => e, fun i q hq hn => absurd ⟨q, hq⟩ hn⟩

variable (S : Since M M' k n)
include S
theorem Since.kid {j : Nat} {q : Node} (hq : M'[j]? = some (some q)) (hn : ¬ Opn M j) {x : Item} (hx : x ∈ q.l) (h0 : 0 ≤ x.c) : ¬ Opn M x.c.toNat := by
  obtain ⟨kk, hk, hp, _⟩ := S.good.kid hq hx h0
  rintro ⟨z, hz⟩
  have hzp : z.p = (j : Int) := by
    by_cases e : x.c.toNat = k
    · obtain ⟨e', he, _⟩ := S.here
      rw [e, he] at hk
      rw [e, hi] at hz
      injection hk with hk; injection hk with hk
      injection hz with hz; injection hz with hz
      subst hk hz
      exact hp
    · have := S.old _ z e hz
      rw [this] at hk
      injection hk with hk; injection hk with hk
      subst hk
      exact hp
  obtain ⟨_, q', hq', _⟩ := h.parent hz hzp
  exact hn ⟨q', hq'⟩

theorem Since.under {c a : Nat} (hA : Anc M' c a) : ¬ Opn M a → ¬ Opn M c := by
  induction hA with
  | refl c => exact id
  | step c p a kk h1 hp _ ih =>
    intro hn
    obtain ⟨_, q, hq, x, hx, hxc⟩ := S.good.parent h1 hp
    have := S.kid h hi hq (ih hn) hx (by omega)
    rwa [hxc, Int.toNat_natCast] at this

theorem Since.gone {l : List Item} (hfr : ∀ x ∈ l, 0 ≤ x.c → ¬ Opn M x.c.toNat) {c : Nat} (hg : Gone M' l c) : ¬ Opn M c := by
  obtain ⟨x, hx, h0, hA⟩ := hg
  exact S.under h hi hA (hfr x hx h0)

theorem Since.prune {d : Nat → Nat} {D : Nat} (hr : Ranked M' d D) {j : Nat} {q : Node} (hj : M'[j]? = some (some q)) {l l' : List Item} (hl : l.Sublist q.l) {F : Nat} (hF : D - d j < F) (hp : Pruned q l l')
    (hfr : ∀ x ∈ l, 0 ≤ x.c → ¬ Opn M x.c.toNat) (hjk : j = k ∨ ¬ Opn M j) (hkeep : j = k → ∃ e : List Item, l' = n.l ++ e ∧ ∀ x ∈ e, 0 ≤ x.c → ¬ Opn M x.c.toNat) :
    Since M ((trim (shut F M' l)).set j (some { q with l := l' })) k n := by
  have hO := prune_open S.good hr hj hl hF
  have hgj := not_gone S.good hr hj hl
  have hjl : j < (trim (shut F M' l)).length := (List.getElem?_eq_some_iff.1 ((hO j q).2 ⟨hj, hgj⟩)).1
  obtain ⟨e0, he0, hf0⟩ := S.here
  refine ⟨prune_good S.good hr hj hl hF hp, ?_, ?_, ?_⟩
  · by_cases e : j = k
    · obtain ⟨e1, he1, hf1⟩ := hkeep e
      subst e
      rw [he0] at hj
      injection hj with hj; injection hj with hj
      subst hj
      exact ⟨e1, by rw [List.getElem?_set_self hjl, he1], hf1⟩
    · exact ⟨e0, by rw [List.getElem?_set_ne e]; exact (hO _ _).2 ⟨he0, fun hg => S.gone h hi hfr hg ⟨n, hi⟩⟩, hf0⟩
  · intro i0 q0 hik hq0
    have hne : j ≠ i0 := fun e => by
      subst e
      rcases hjk with hjk | hjk
      · exact hik hjk
      · exact hjk ⟨q0, hq0⟩
    rw [List.getElem?_set_ne hne]
    exact (hO _ _).2 ⟨S.old i0 q0 hik hq0, fun hg => S.gone h hi hfr hg ⟨q0, hq0⟩⟩
  · intro i0 q0 hq0 hn
    by_cases e : j = i0
    · subst e
      rw [List.getElem?_set_self hjl] at hq0
      injection hq0 with hq0; injection hq0 with hq0
      subst hq0
      exact S.new j q hj hn
    · rw [List.getElem?_set_ne e] at hq0
      exact S.new i0 q0 ((hO _ _).1 hq0).1 hn

theorem Since.rewind {F : Nat} (hF : Big M' F) (j m : Int) (hn : ¬ Opn M j.toNat) : Since M (rewindTo M' F j m).1 k n := by
  obtain ⟨d, D, hr, hD⟩ := hF
  unfold rewindTo
  cases hf : find M' j with
  | none => exact S
  | some q =>
    obtain ⟨h0, hj⟩ := find_some hf
    dsimp only
    split
    · exact S
    · exact S.prune h hi hr hj (List.drop_sublist _ _) (by omega) (rewind_pruned S.good hj _) (fun x hx h0 => S.kid h hi hj hn (List.mem_of_mem_drop hx) h0) (.inr hn) (fun e => absurd ⟨n, by rw [e]; exact hi⟩ hn)

omit S h hi in
theorem tidy_append {a b : List Item} (ha : ∀ x, a.getLast? = some x → x.c ≠ -2) : tidy (a ++ b) = a ++ tidy b := by
  unfold tidy
  rw [List.reverse_append, List.dropWhile_append]
  split
  · next he =>
    rw [List.isEmpty_iff] at he
    rw [he]
    cases hx : a.reverse with
    | nil => simp_all
    | cons x l =>
      have := ha x (by rw [List.getLast?_eq_head?_reverse, hx]; rfl)
      rw [List.dropWhile_cons_of_neg (by simpa using this), ← hx]
      simp
  · simp

theorem Since.stop {F : Nat} (hF : Big M' F) (j : Int) (hn : ¬ Opn M j.toNat) : Since M (stopAt M' F j).1 k n := by
  obtain ⟨d, D, hr, hD⟩ := hF
  unfold stopAt
  cases hf : find M' j with
  | none => exact S
  | some z =>
    obtain ⟨h0, hj⟩ := find_some hf
    dsimp only
    split
    · exact S
    · next hj0 =>
      obtain ⟨p, hp, hpk⟩ := S.new _ _ hj hn
      obtain ⟨_, q, x, hq, hx, hxc, _⟩ := stop_finds S.good hj (by omega)
      rw [show ((j.toNat : Nat) : Int) = j by omega] at hx hxc
      rw [hq]
      dsimp only
      rw [hx]
      dsimp only
      rw [hp, Int.toNat_natCast] at hq ⊢
      refine S.prune h hi hr hq (List.singleton_sublist.2 (List.mem_of_getElem? hx)) (by omega) (stop_pruned S.good hq _ x hx (by omega)) ?_ hpk ?_
      · intro y hy _
        rw [List.mem_singleton] at hy
        subst hy
        rwa [hxc]
      · intro e
        obtain ⟨e0, he0, hf0⟩ := S.here
        subst e
        rw [he0] at hq
        injection hq with hq; injection hq with hq
        subst hq
        have hge : n.l.length ≤ placeOf { n with l := n.l ++ e0 } j := by
          refine Nat.le_of_not_lt fun hlt => ?_
          rw [List.getElem?_append_left hlt] at hx
          obtain ⟨kk, hk, _⟩ := h.kid hi (List.mem_of_getElem? hx) (by omega)
          rw [hxc] at hk
          exact hn ⟨kk, hk⟩
        refine ⟨tidy (e0.set (placeOf { n with l := n.l ++ e0 } j - n.l.length) (asHole x)), ?_, ?_⟩
        · rw [List.set_append_right _ _ hge, tidy_append (h.node _ _ hi).last]
        · intro y hy h0
          have hy := (tidy_sub _).subset hy
          rcases List.mem_or_eq_of_mem_set hy with hy | hy
          · exact hf0 y hy h0
          · rw [hy] at h0
            exact absurd h0 (by simp [asHole])

omit h hi in
/-- One item more. -/
theorem Since.add {j : Nat} {q : Node} (hj : M'[j]? = some (some q)) (hjk : j = k ∨ ¬ Opn M j) {x : Item} (hx : 0 ≤ x.c → ¬ Opn M x.c.toNat) {T : Tr} (hT : Good T)
    (hTj : T[j]? = some (some { q with l := q.l ++ [x] })) (hTo : ∀ (i : Nat) (z : Node), i ≠ j → M'[i]? = some (some z) → T[i]? = some (some z))
    (hTn : ∀ (i : Nat) (z : Node), i ≠ j → T[i]? = some (some z) → ¬ Opn M i → M'[i]? = some (some z) ∨ z.p = (j : Int)) : Since M T k n := by
  obtain ⟨e0, he0, hf0⟩ := S.here
  refine ⟨hT, ?_, ?_, ?_⟩
  · by_cases e : k = j
    · subst e
      rw [he0] at hj
      injection hj with hj; injection hj with hj
      subst hj
      refine ⟨e0 ++ [x], by rw [hTj]; simp, ?_⟩
      intro y hy h0
      rcases List.mem_append.1 hy with hy | hy
      · exact hf0 y hy h0
      · rw [List.mem_singleton] at hy
        subst hy
        exact hx h0
    · exact ⟨e0, hTo k _ e he0, hf0⟩
  · intro i0 q0 hik hq0
    refine hTo i0 q0 (fun e => ?_) (S.old i0 q0 hik hq0)
    subst e
    rcases hjk with e | e
    · exact hik e
    · exact e ⟨q0, hq0⟩
  · intro i0 q0 hq0 hn
    by_cases e : i0 = j
    · subst e
      rw [hTj] at hq0
      injection hq0 with hq0; injection hq0 with hq0
      subst hq0
      exact S.new i0 q hj hn
    · rcases hTn i0 q0 e hq0 hn with e1 | e1
      · exact S.new i0 q0 e1 hn
      · exact ⟨j, e1, hjk⟩

omit h hi in
theorem Since.alloc (j sz al : Int) (hjk : j.toNat = k ∨ ¬ Opn M j.toNat) : Since M (alloc M' j sz al).1 k n := by
  have hg := alloc_keeps S.good j sz al
  unfold Ne.alloc at hg ⊢
  split
  · next hG =>
    rw [if_pos hG] at hg
    obtain ⟨q, _, h0, hj, _⟩ := give_gives S.good hG
    have e : addItem M' j.toNat ⟨(give M' j sz al).1, sz, -1⟩ = M'.set j.toNat (some { q with l := q.l ++ [⟨(give M' j sz al).1, sz, -1⟩] }) := by simp [addItem, hj]
    dsimp only at hg ⊢
    rw [e] at hg ⊢
    have hl := (List.getElem?_eq_some_iff.1 hj).1
    refine S.add hj hjk (x := ⟨(give M' j sz al).1, sz, -1⟩) (fun e => absurd (show (0:Int) ≤ -1 from e) (by decide)) hg (List.getElem?_set_self hl) ?_ ?_
    · intro i0 z hne hz
      rw [List.getElem?_set_ne (Ne.symm hne)]; exact hz
    · intro i0 z hne hz _
      rw [List.getElem?_set_ne (Ne.symm hne)] at hz; exact .inl hz
  · exact S

omit h hi in
theorem Since.begin_ (j sz al : Int) (hjk : j.toNat = k ∨ ¬ Opn M j.toNat) : Since M (begin_ M' j sz al).1 k n ∧ ((begin_ M' j sz al).2.2 = 0 → 0 ≤ (begin_ M' j sz al).2.1 ∧ (begin_ M' j sz al).2.1 < 64 ∧ ¬ Opn M (begin_ M' j sz al).2.1.toNat) := by
  have hg := begin_keeps S.good j sz al
  unfold Ne.begin_ at hg ⊢
  split
  · next hG =>
    rw [if_pos hG] at hg
    split
    · next hH => exact ⟨S, fun e => absurd (show (5:Int) = 0 from e) (by decide)⟩
    · next hH =>
      rw [if_neg hH] at hg
      obtain ⟨q, _, h0, hj, _⟩ := give_gives S.good hG
      have hl := (List.getElem?_eq_some_iff.1 hj).1
      have hhole : ¬ Opn M (hole M') := by
        rintro ⟨z, hz⟩
        by_cases e : hole M' = k
        · obtain ⟨e0, he0, _⟩ := S.here
          rw [← e] at he0
          exact hole_at he0
        · exact hole_at (S.old _ z e hz)
      have hne : hole M' ≠ j.toNat := fun e => hole_at (e ▸ hj)
      have hle := hole_le M'
      have hlen := S.good.len
      have hR : ∀ (i0 : Nat) (z : Node), (room M' (hole M'))[i0]? = some (some z) ↔ M'[i0]? = some (some z) := by
        intro i0 z
        unfold room
        split
        · rfl
        · by_cases hi0 : i0 < M'.length
          · rw [List.getElem?_append_left hi0]
          · rw [List.getElem?_append_right (by omega), List.getElem?_eq_none (by omega : M'.length ≤ i0)]
            cases e : i0 - M'.length with
            | zero => simp
            | succ m => simp
      have hRl : hole M' < (room M' (hole M')).length := by
        unfold room
        split
        · assumption
        · simp; omega
      have hRj := (hR j.toNat q).2 hj
      have hRjl := (List.getElem?_eq_some_iff.1 hRj).1
      have e : addItem (room M' (hole M')) j.toNat ⟨(give M' j sz al).1, sz, hole M'⟩ = (room M' (hole M')).set j.toNat (some { q with l := q.l ++ [⟨(give M' j sz al).1, sz, hole M'⟩] }) := by simp [addItem, hRj]
      dsimp only at hg ⊢
      rw [e] at hg ⊢
      refine ⟨S.add hj hjk (x := ⟨(give M' j sz al).1, sz, hole M'⟩) (fun _ => by simpa using hhole) hg ?_ ?_ ?_, fun _ => ⟨by omega, by omega, by simpa using hhole⟩⟩
      · rw [List.getElem?_set_ne hne, List.getElem?_set_self hRjl]
      · intro i0 z hn0 hz
        rw [List.getElem?_set_ne (fun e => hole_at (e ▸ hz)), List.getElem?_set_ne (Ne.symm hn0)]
        exact (hR i0 z).2 hz
      · intro i0 z hn0 hz _
        by_cases e : hole M' = i0
        · subst e
          rw [List.getElem?_set_self (by rw [List.length_set]; exact hRl)] at hz
          injection hz with hz; injection hz with hz
          subst hz
          exact .inr (by show j = _; omega)
        · rw [List.getElem?_set_ne e, List.getElem?_set_ne (Ne.symm hn0)] at hz
          exact .inl ((hR i0 z).1 hz)
  · next hG => exact ⟨S, fun e => absurd e hG⟩

omit h hi S in
theorem tr_ext {A B : Tr} (hab : ∀ (i : Nat) (q : Node), A[i]? = some (some q) ↔ B[i]? = some (some q)) (ha : A.getLast? ≠ some none) (hb : B.getLast? ≠ some none) : A = B := by
  have key : ∀ A B : Tr, (∀ (i : Nat) (q : Node), A[i]? = some (some q) ↔ B[i]? = some (some q)) → B.getLast? ≠ some none → B.length ≤ A.length := by
    intro A B hab hb
    refine Nat.le_of_not_lt fun hlt => ?_
    rw [List.getLast?_eq_getElem?] at hb
    have hl : B.length - 1 < B.length := by omega
    rw [List.getElem?_eq_getElem hl] at hb
    cases e : B[B.length - 1] with
    | none => rw [e] at hb; exact hb rfl
    | some q =>
      have := (hab (B.length - 1) q).2 (by rw [List.getElem?_eq_getElem hl, e])
      have := (List.getElem?_eq_some_iff.1 this).1
      omega
  have hlen : A.length = B.length := Nat.le_antisymm (key B A (fun i q => (hab i q).symm) ha) (key A B hab hb)
  refine List.ext_getElem? fun i => ?_
  rcases Nat.lt_or_ge i A.length with hi | hi
  · have hi' : i < B.length := by omega
    have e1 := List.getElem?_eq_getElem hi
    have e2 := List.getElem?_eq_getElem hi'
    cases ea : A[i] with
    | some q => rw [ea] at e1; rw [e1, (hab i q).1 e1]
    | none =>
      cases eb : B[i] with
      | none => rw [e1, e2, ea, eb]
      | some q =>
        rw [eb] at e2
        have := (hab i q).2 e2
        rw [e1, ea] at this
        cases this
  · rw [List.getElem?_eq_none hi, List.getElem?_eq_none (by omega)]

/-- Rewind leaves the state as it was. -/
theorem Since.back {F : Nat} (hF : Big M' F) : rewindTo M' F k n.l.length = (M, 0) := by
  obtain ⟨d, D, hr, hD⟩ := hF
  obtain ⟨e0, he0, hf0⟩ := S.here
  have hfind : find M' (k : Int) = some { n with l := n.l ++ e0 } := by
    unfold find
    rw [if_neg (by omega), Int.toNat_natCast, he0]; rfl
  have hgood := rewind_good S.good (F := F) ⟨d, D, hr, hD⟩ (k : Int) (n.l.length : Int)
  unfold rewindTo at hgood ⊢
  rw [hfind] at hgood ⊢
  dsimp only at hgood ⊢
  rw [if_neg (by simp; omega)] at hgood ⊢
  simp only [Int.toNat_natCast, List.drop_left, List.take_left] at hgood ⊢
  have htid : tidy n.l = n.l := by
    have := tidy_append (b := []) (h.node _ _ hi).last
    simpa [tidy] using this
  rw [htid] at hgood ⊢
  have hO := prune_open S.good hr he0 (List.sublist_append_right n.l e0) (F := F) (by omega)
  refine Prod.ext (tr_ext ?_ hgood.last h.last) rfl
  intro i0 q0
  have hkk : k < (trim (shut F M' e0)).length := (List.getElem?_eq_some_iff.1 ((hO k _).2 ⟨he0, not_gone S.good hr he0 (List.sublist_append_right n.l e0)⟩)).1
  by_cases e : k = i0
  · subst e
    dsimp only
    rw [List.getElem?_set_self hkk, hi]
  · dsimp only
    rw [List.getElem?_set_ne e, hO]
    constructor
    · rintro ⟨hq, hg⟩
      by_cases ho : Opn M i0
      · obtain ⟨z, hz⟩ := ho
        rw [S.old i0 z (Ne.symm e) hz] at hq
        rw [hz, hq]
      · refine absurd ?_ hg
        have up : ∀ m : Nat, ∀ (c : Nat) (z : Node), d c ≤ m → M'[c]? = some (some z) → ¬ Opn M c → Gone M' e0 c := by
          intro m
          induction m with
          | zero =>
            intro c z hd hz hn
            obtain ⟨p, hp, _⟩ := S.new c z hz hn
            have := S.good.parent_rank hr hz hp
            omega
          | succ m ih =>
            intro c z hd hz hn
            obtain ⟨p, hp, hpk⟩ := S.new c z hz hn
            have hrk := S.good.parent_rank hr hz hp
            obtain ⟨_, q, hq, x, hx, hxc⟩ := S.good.parent hz hp
            by_cases hpk' : p = k
            · subst hpk'
              rw [he0] at hq
              injection hq with hq; injection hq with hq
              subst hq
              rcases List.mem_append.1 hx with hx | hx
              · obtain ⟨kk, hk, _⟩ := h.kid hi hx (by omega)
                rw [hxc, Int.toNat_natCast] at hk
                exact absurd ⟨kk, hk⟩ hn
              · exact ⟨x, hx, by omega, by rw [hxc, Int.toNat_natCast]; exact .refl c⟩
            · obtain ⟨y, hy, hy0, hA⟩ := ih p q (by omega) hq (by rcases hpk with e | e; exact absurd e hpk'; exact e)
              exact ⟨y, hy, hy0, .step c p _ z hz hp hA⟩
        exact up (d i0) i0 q0 (Nat.le_refl _) hq ho
    · intro hq
      exact ⟨S.old i0 q0 (Ne.symm e) hq, fun hg => S.gone h hi hf0 hg ⟨q0, hq⟩⟩
end
end Ne
end Go.Proofs.Ytllmddhahpegmaa
