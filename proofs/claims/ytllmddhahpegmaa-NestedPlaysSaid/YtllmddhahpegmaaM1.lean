/- The bits of small numbers: which are powers of two, and what is rounded up to a multiple of one. The plain laws on what lives in an arena. The plain laws on trees: what is inside of what, and what shut closes. -/
import Derived.Test.YtllmddhahpegmaaM0
import Derived.WalkKit
namespace Go.Proofs.Ytllmddhahpegmaa
namespace Ne
theorem toInt_small (n : Nat) (h : n < 9223372036854775808) : (BitVec.ofInt 64 (n : Int)).toNat = n := by
  simp; omega

theorem wrap_small (n : Nat) (h : n < 9223372036854775808) : IntKind.i64.wrap (n : Int) = n := by
  rw [IntWalk.i64_in]; omega

theorem and_nat (m n : Nat) (hm : m < 9223372036854775808) (hn : n < 9223372036854775808) : bits .and .i64 (m : Int) (n : Int) = ((m &&& n : Nat) : Int) := by
  have h1 := toInt_small m hm
  have h2 := toInt_small n hn
  have h3 : m &&& n ≤ m := Nat.and_le_left
  simp only [bits]
  show IntKind.i64.wrap ((BitVec.ofInt 64 (m : Int) &&& BitVec.ofInt 64 (n : Int)).toNat : Int) = _
  rw [BitVec.toNat_and, h1, h2, wrap_small _ (by omega)]

def pows : List Nat := [1, 2, 4, 8, 16, 32, 64, 128, 256, 512, 1024, 2048, 4096]

theorem pow_all : (List.range 4097).all (fun a => a == 0 || (a &&& (a - 1) == 0) == pows.contains a) = true := by decide +kernel

theorem pow_iff (a : Nat) (h1 : 1 ≤ a) (h2 : a ≤ 4096) : (a &&& (a - 1) = 0) ↔ a ∈ pows := by
  have h := List.all_eq_true.1 pow_all a (by simp; omega)
  simp at h
  rcases h with h | h
  · omega
  · by_cases hp : a ∈ pows
    · simp [hp] at h ⊢; exact h
    · simp [hp] at h ⊢; exact h

theorem andNot_nat (x k : Nat) (hx : x < 9223372036854775808) (hk : k ≤ 12) : bits .andNot .i64 (x : Int) ((2 ^ k - 1 : Nat) : Int) = ((x / 2 ^ k * 2 ^ k : Nat) : Int) := by
  have hp : 2 ^ k ≤ 2 ^ 12 := Nat.pow_le_pow_right (by omega) hk
  have h1 := toInt_small x hx
  have h2 := toInt_small (2 ^ k - 1) (by omega)
  have hle : x / 2 ^ k * 2 ^ k ≤ x := Nat.div_mul_le_self x (2 ^ k)
  have key : (BitVec.ofInt 64 (x : Int) &&& ~~~ BitVec.ofInt 64 ((2 ^ k - 1 : Nat) : Int)).toNat = x / 2 ^ k * 2 ^ k := by
    apply Nat.eq_of_testBit_eq
    intro i
    rw [← Nat.shiftRight_eq_div_pow, ← Nat.shiftLeft_eq, Nat.testBit_shiftLeft, Nat.testBit_shiftRight, BitVec.testBit_toNat, BitVec.getLsbD_and, BitVec.getLsbD_not, ← BitVec.testBit_toNat, ← BitVec.testBit_toNat, h1, h2, Nat.testBit_two_pow_sub_one]
    by_cases hi : i < 64
    · by_cases hik : i < k
      · have : ¬ k ≤ i := by omega
        simp [hik, this]
      · have h3 : k ≤ i := by omega
        have h4 : k + (i - k) = i := by omega
        simp [hi, hik, h3, h4]
    · have h3 : x.testBit i = false := Nat.testBit_lt_two_pow (Nat.lt_of_lt_of_le hx (by
        have : 2 ^ 63 ≤ 2 ^ i := Nat.pow_le_pow_right (by omega) (by omega)
        omega))
      have h5 : k ≤ i := by omega
      have h4 : k + (i - k) = i := by omega
      simp [h3, h4]
  show IntKind.i64.wrap ((BitVec.ofInt 64 (x : Int) &&& ~~~ BitVec.ofInt 64 ((2 ^ k - 1 : Nat) : Int)).toNat : Int) = _
  rw [key, wrap_small _ (by omega)]

theorem pows_pow (a : Nat) (h : a ∈ pows) : ∃ k, k ≤ 12 ∧ a = 2 ^ k := by
  simp [pows] at h
  rcases h with h | h | h | h | h | h | h | h | h | h | h | h | h
  · exact ⟨0, by omega, h⟩
  · exact ⟨1, by omega, h⟩
  · exact ⟨2, by omega, h⟩
  · exact ⟨3, by omega, h⟩
  · exact ⟨4, by omega, h⟩
  · exact ⟨5, by omega, h⟩
  · exact ⟨6, by omega, h⟩
  · exact ⟨7, by omega, h⟩
  · exact ⟨8, by omega, h⟩
  · exact ⟨9, by omega, h⟩
  · exact ⟨10, by omega, h⟩
  · exact ⟨11, by omega, h⟩
  · exact ⟨12, by omega, h⟩

/-- An alignment, as the program asks it. -/
theorem align_test (al : Int) (h1 : 1 ≤ al) (h2 : al ≤ 4096) :
    (bits .and .i64 al (al - 1) != 0) = !([1, 2, 4, 8, 16, 32, 64, 128, 256, 512, 1024, 2048, 4096] : List Int).contains al := by
  obtain ⟨a, rfl⟩ := Int.eq_ofNat_of_zero_le (show 0 ≤ al by omega)
  have e : (a : Int) - 1 = ((a - 1 : Nat) : Int) := by omega
  rw [e, and_nat a (a - 1) (by omega) (by omega)]
  have hp := pow_iff a (by omega) (by omega)
  have hq : ([1, 2, 4, 8, 16, 32, 64, 128, 256, 512, 1024, 2048, 4096] : List Int).contains (a : Int) = decide (a ∈ pows) := by
    rw [Bool.eq_iff_iff]
    simp [pows]
    omega
  rw [hq]
  by_cases h : a ∈ pows
  · have := hp.2 h
    simp [h, this]
  · have : ¬ (a &&& (a - 1) = 0) := fun x => h (hp.1 x)
    simp [h]
    omega

/-- Rounding up, as the program does it. -/
theorem up_bits (x al : Int) (hx : 0 ≤ x) (hx2 : x ≤ 65536) (h : ([1, 2, 4, 8, 16, 32, 64, 128, 256, 512, 1024, 2048, 4096] : List Int).contains al = true) :
    bits .andNot .i64 (x + al - 1) (al - 1) = up x al := by
  obtain ⟨a, rfl⟩ : ∃ a : Nat, al = a := by
    simp at h
    rcases h with h | h | h | h | h | h | h | h | h | h | h | h | h <;> exact ⟨al.toNat, by omega⟩
  obtain ⟨y, rfl⟩ := Int.eq_ofNat_of_zero_le hx
  have ha : a ∈ pows := by
    simp at h
    simp [pows]
    omega
  obtain ⟨k, hk, rfl⟩ := pows_pow a ha
  have hp : 2 ^ k ≤ 2 ^ 12 := Nat.pow_le_pow_right (by omega) hk
  have hp0 : 1 ≤ 2 ^ k := Nat.one_le_two_pow
  have e1 : (y : Int) + ((2 ^ k : Nat) : Int) - 1 = ((y + 2 ^ k - 1 : Nat) : Int) := by omega
  have e2 : ((2 ^ k : Nat) : Int) - 1 = ((2 ^ k - 1 : Nat) : Int) := by omega
  unfold up
  rw [e1, e2, andNot_nat _ k (by omega) hk]
  simp

end Ne
end Go.Proofs.Ytllmddhahpegmaa
namespace Go.Proofs.Ytllmddhahpegmaa
namespace Ne

/-- What an item counts. -/
def liveOf (t : Tr) (f : Nat) (x : Item) : Int := if 0 ≤ x.c then live t f (itemsOf t x.c.toNat) else if x.c = -1 then x.s else 0

theorem live_nil (t : Tr) (f : Nat) : live t (f + 1) [] = 0 := rfl
theorem live_snoc (t : Tr) (f : Nat) (l : List Item) (x : Item) : live t (f + 1) (l ++ [x]) = live t (f + 1) l + liveOf t f x := by
  simp [live, liveOf]
theorem live_take (t : Tr) (f : Nat) (l : List Item) (j : Nat) (x : Item) (h : l[j]? = some x) : live t (f + 1) (l.take (j + 1)) = live t (f + 1) (l.take j) + liveOf t f x := by
  have hj := (List.getElem?_eq_some_iff.1 h)
  obtain ⟨hl, rfl⟩ := hj
  rw [List.take_succ_eq_append_getElem hl, live_snoc]

/-- The sums stay small, and the arenas inside are there. -/
def LiveOk (t : Tr) : Nat → List Item → Prop
  | 0, _ => False
  | f + 1, l => (∀ x ∈ l, 0 ≤ x.c → ∃ n, t[x.c.toNat]? = some (some n) ∧ n.l.length ≤ 200 ∧ LiveOk t f n.l) ∧ (∀ j, 0 ≤ live t (f + 1) (l.take j) ∧ live t (f + 1) (l.take j) ≤ 65536) ∧ ∀ x ∈ l, 0 ≤ x.s ∧ x.s ≤ 65536

end Ne
end Go.Proofs.Ytllmddhahpegmaa
namespace Go.Proofs.Ytllmddhahpegmaa
namespace Ne

/-- An arena is another one, or inside of it. -/
inductive Anc (t : Tr) : Nat → Nat → Prop where
  | refl (c : Nat) : Anc t c c
  | step (c p a : Nat) (k : Node) : t[c]? = some (some k) → k.p = (p : Int) → Anc t p a → Anc t c a

theorem Anc.trans {t : Tr} {a b c : Nat} (h : Anc t a b) (h2 : Anc t b c) : Anc t a c := by
  induction h with
  | refl c => exact h2
  | step c p a k h1 hp _ ih => exact .step c p _ k h1 hp (ih h2)

/-- The ranks of Good. -/
structure Ranked (t : Tr) (d : Nat → Nat) (D : Nat) : Prop where
  top : ∀ i, d i ≤ D
  kid : ∀ i n, t[i]? = some (some n) → ∀ x ∈ n.l, 0 ≤ x.c → d x.c.toNat = d i + 1

theorem Good.ranked {t : Tr} (h : Good t) : ∃ d D, Ranked t d D := by
  obtain ⟨d, D, h1, h2⟩ := h.rank
  exact ⟨d, D, h1, h2⟩

/-- The parent of an arena that is not the root. -/
theorem Good.parent {t : Tr} (h : Good t) {c : Nat} {k : Node} {p : Nat} (hc : t[c]? = some (some k)) (hp : k.p = (p : Int)) :
    c ≠ 0 ∧ ∃ q, t[p]? = some (some q) ∧ ∃ x ∈ q.l, x.c = (c : Int) := by
  have hok := h.node c k hc
  have h0 : c ≠ 0 := fun e => by have := hok.root e; omega
  obtain ⟨_, q, hq, x, hx, hxc⟩ := hok.par h0
  rw [hp, Int.toNat_natCast] at hq
  exact ⟨h0, q, hq, x, hx, hxc⟩

theorem Good.parent_rank {t : Tr} (h : Good t) {d : Nat → Nat} {D : Nat} (hr : Ranked t d D) {c : Nat} {k : Node} {p : Nat} (hc : t[c]? = some (some k)) (hp : k.p = (p : Int)) : d c = d p + 1 := by
  obtain ⟨_, q, hq, x, hx, hxc⟩ := h.parent hc hp
  have := hr.kid p q hq x hx (by omega)
  rw [hxc, Int.toNat_natCast] at this
  exact this

theorem Anc.rank {t : Tr} (h : Good t) {d : Nat → Nat} {D : Nat} (hr : Ranked t d D) {c a : Nat} (hA : Anc t c a) : d a ≤ d c := by
  induction hA with
  | refl c => exact Nat.le_refl _
  | step c p a k h1 hp _ ih => have := h.parent_rank hr h1 hp; omega

theorem Anc.same_rank {t : Tr} (h : Good t) {d : Nat → Nat} {D : Nat} (hr : Ranked t d D) {c a : Nat} (hA : Anc t c a) (hd : d c ≤ d a) : c = a := by
  cases hA with
  | refl c => rfl
  | step c p a k h1 hp h2 => have := h.parent_rank hr h1 hp; have := h2.rank h hr; omega

/-- Two arenas around one, of one rank, are one. -/
theorem Anc.unique {t : Tr} (h : Good t) {d : Nat → Nat} {D : Nat} (hr : Ranked t d D) {c a b : Nat} (hA : Anc t c a) (hB : Anc t c b) (hd : d a = d b) : a = b := by
  induction hA with
  | refl c => exact (hB.same_rank h hr (by omega))
  | step c p a k h1 hp hA ih =>
    cases hB with
    | refl => have := h.parent_rank hr h1 hp; have := hA.rank h hr; omega
    | step c p' b k' h1' hp' hB =>
      rw [h1] at h1'
      injection h1' with h1'
      injection h1' with h1'
      subst h1'
      have : p = p' := by omega
      subst this
      exact ih hB hd

/-- What is inside of an arena: itself, and what is inside of its children. -/
theorem Anc.down {t : Tr} (h : Good t) {c a : Nat} {q : Node} (hA : Anc t c a) (hq : t[a]? = some (some q)) : c = a ∨ ∃ x ∈ q.l, 0 ≤ x.c ∧ Anc t c x.c.toNat := by
  induction hA with
  | refl c => exact .inl rfl
  | step c p a k h1 hp hA ih =>
    right
    rcases ih hq with rfl | ⟨x, hx, h0, hx2⟩
    · obtain ⟨_, q', hq', x, hx, hxc⟩ := h.parent h1 hp
      rw [hq] at hq'
      injection hq' with hq'
      injection hq' with hq'
      subst hq'
      exact ⟨x, hx, by omega, by rw [hxc, Int.toNat_natCast]; exact .refl _⟩
    · exact ⟨x, hx, h0, .step c p _ k h1 hp hx2⟩

theorem Good.kid {t : Tr} (h : Good t) {a : Nat} {q : Node} (hq : t[a]? = some (some q)) {x : Item} (hx : x ∈ q.l) (h0 : 0 ≤ x.c) : ∃ k, t[x.c.toNat]? = some (some k) ∧ k.p = (a : Int) ∧ k.a = x.a ∧ k.s = x.s :=
  (h.node a q hq).kid x hx h0

theorem Anc.up {t : Tr} (h : Good t) {c a : Nat} {q : Node} (hq : t[a]? = some (some q)) {x : Item} (hx : x ∈ q.l) (h0 : 0 ≤ x.c) (hA : Anc t c x.c.toNat) : Anc t c a := by
  obtain ⟨k, hk, hp, _⟩ := h.kid hq hx h0
  exact hA.trans (.step _ a a k hk hp (.refl _))

/-- What is closed with items: the arenas among them, and all inside of these. -/
def Gone (t : Tr) (l : List Item) (c : Nat) : Prop := ∃ x ∈ l, 0 ≤ x.c ∧ Anc t c x.c.toNat

theorem shut_spec {M : Tr} (h : Good M) {d : Nat → Nat} {D : Nat} (hr : Ranked M d D) (F : Nat) : ∀ (i : Nat) (n : Node) (l : List Item) (t : Tr), M[i]? = some (some n) → l.Sublist n.l → D - d i < F → t.length = M.length →
    (∀ c, Gone M l c → t[c]? = M[c]?) → ShutOk F t l ∧ (∀ c, Gone M l c → c < M.length → (shut F t l)[c]? = some none) ∧ ∀ c, ¬ Gone M l c → (shut F t l)[c]? = t[c]? := by
  induction F with
  | zero => intro i n l t _ _ hf; omega
  | succ F ih =>
    intro i n l t hi hl hF htl hag
    have hsub : ∀ x ∈ l, x ∈ n.l := fun x hx => hl.subset hx
    have huniq : l.Pairwise (fun x y => 0 ≤ x.c → x.c ≠ y.c) := (h.node i n hi).uniq.sublist hl
    -- after j items
    have key : ∀ j, j ≤ l.length → ((l.take j).foldl (shutStep F) t).length = M.length ∧
        (∀ c, Gone M (l.take j) c → c < M.length → ((l.take j).foldl (shutStep F) t)[c]? = some none) ∧ (∀ c, ¬ Gone M (l.take j) c → ((l.take j).foldl (shutStep F) t)[c]? = t[c]?) ∧
        ∀ j' x, j' < j → l[j']? = some x → 0 ≤ x.c → ∃ k, ((l.take j').foldl (shutStep F) t)[x.c.toNat]? = some (some k) ∧ k.l.length ≤ 200 ∧ ShutOk F ((l.take j').foldl (shutStep F) t) k.l := by
      intro j
      induction j with
      | zero =>
        intro _
        refine ⟨htl, fun c hc => ?_, fun c _ => rfl, fun j' x hj => by omega⟩
        obtain ⟨x, hx, _⟩ := hc
        simp at hx
      | succ j ihj =>
        intro hj
        obtain ⟨g1, g2, g3, g4⟩ := ihj (by omega)
        obtain ⟨x, hx⟩ : ∃ x, l[j]? = some x := ⟨_, List.getElem?_eq_getElem (by omega)⟩
        have hxl := List.mem_of_getElem? hx
        have htk : l.take (j + 1) = l.take j ++ [x] := by
          obtain ⟨hl', rfl⟩ := List.getElem?_eq_some_iff.1 hx
          rw [List.take_succ_eq_append_getElem hl']
        have hfold : (l.take (j + 1)).foldl (shutStep F) t = shutStep F ((l.take j).foldl (shutStep F) t) x := by
          rw [htk, List.foldl_append]; rfl
        have hgone : ∀ c, Gone M (l.take (j + 1)) c ↔ Gone M (l.take j) c ∨ (0 ≤ x.c ∧ Anc M c x.c.toNat) := by
          intro c
          rw [htk]
          constructor
          · rintro ⟨y, hy, h0, hA⟩
            rcases List.mem_append.1 hy with hy | hy
            · exact .inl ⟨y, hy, h0, hA⟩
            · rw [List.mem_singleton] at hy
              subst hy
              exact .inr ⟨h0, hA⟩
          · rintro (⟨y, hy, h0, hA⟩ | ⟨h0, hA⟩)
            · exact ⟨y, List.mem_append.2 (.inl hy), h0, hA⟩
            · exact ⟨x, List.mem_append.2 (.inr (List.mem_singleton.2 rfl)), h0, hA⟩
        rw [hfold]
        generalize htj : (l.take j).foldl (shutStep F) t = tj at *
        by_cases h0 : 0 ≤ x.c
        · obtain ⟨k, hk, hkp, hka, hks⟩ := h.kid hi (hsub x hxl) h0
          have hdk := hr.kid i n hi x (hsub x hxl) h0
          -- what is inside of x's arena is untouched
          have hnot : ∀ c, Anc M c x.c.toNat → ¬ Gone M (l.take j) c := by
            rintro c hA ⟨y, hy, hy0, hyA⟩
            obtain ⟨j', hj'⟩ := List.mem_iff_getElem?.1 hy
            have hj'l : j' < j := by
              have := (List.getElem?_eq_some_iff.1 hj').1
              rw [List.length_take] at this
              omega
            rw [List.getElem?_take, if_pos hj'l] at hj'
            have hyl := List.mem_of_getElem? hj'
            have hdy := hr.kid i n hi y (hsub y hyl) hy0
            have := hyA.unique h hr hA (by omega)
            obtain ⟨a1, a2⟩ := List.getElem?_eq_some_iff.1 hj'
            obtain ⟨b1, b2⟩ := List.getElem?_eq_some_iff.1 hx
            have hpw := List.pairwise_iff_getElem.1 huniq j' j a1 b1 hj'l
            rw [a2, b2] at hpw
            exact hpw hy0 (by omega)
          have hag' : ∀ c, Anc M c x.c.toNat → tj[c]? = M[c]? := fun c hA => (g3 c (hnot c hA)).trans (hag c ⟨x, hxl, h0, hA⟩)
          have htk' := hag' _ (.refl _)
          rw [hk] at htk'
          have hdD := hr.top x.c.toNat
          obtain ⟨r1, r2, r3⟩ := ih x.c.toNat k k.l tj hk (List.Sublist.refl _) (by omega) g1 (fun c ⟨y, hy, hy0, hyA⟩ => hag' c (Anc.up h hk hy hy0 hyA))
          have hstep : shutStep F tj x = (shut F tj k.l).set x.c.toNat none := by
            rw [shutStep, if_pos h0, itemsOf, htk']
          rw [hstep]
          have hqM : x.c.toNat < M.length := (List.getElem?_eq_some_iff.1 hk).1
          have hsl : (shut F tj k.l).length = M.length := by
            have : ∀ (f : Nat) (t : Tr) (l : List Item), (shut f t l).length = t.length := by
              intro f
              induction f with
              | zero => intro t l; rfl
              | succ f ih =>
                intro t l
                unfold shut
                induction l generalizing t with
                | nil => rfl
                | cons x l ih2 =>
                  rw [List.foldl_cons, ih2]
                  split
                  · rw [List.length_set, ih]
                  · rfl
            rw [this]; exact g1
          refine ⟨by rw [List.length_set]; exact hsl, fun c hc hcM => ?_, fun c hc => ?_, fun j' y hj' hy hy0 => ?_⟩
          · rw [List.getElem?_set]
            split
            · next e => rw [if_pos (by omega)]
            · next e =>
              rcases (hgone c).1 hc with hc | ⟨_, hc⟩
              · by_cases hck : Gone M k.l c
                · exact r2 c hck hcM
                · rw [r3 c hck]; exact g2 c hc hcM
              · rcases hc.down h hk with hc | hc
                · exact absurd hc.symm e
                · exact r2 c hc hcM
          · have hc' : ¬ Gone M (l.take j) c ∧ ¬ Anc M c x.c.toNat := ⟨fun e => hc ((hgone c).2 (.inl e)), fun e => hc ((hgone c).2 (.inr ⟨h0, e⟩))⟩
            rw [List.getElem?_set_ne (fun e => hc'.2 (by rw [e]; exact .refl _)), r3 c (fun ⟨y, hy, hy0, hyA⟩ => hc'.2 (Anc.up h hk hy hy0 hyA))]
            exact g3 c hc'.1
          · by_cases e : j' = j
            · subst e
              rw [hx] at hy
              injection hy with hy
              subst hy
              rw [htj]
              exact ⟨k, htk', (h.node _ _ hk).len, r1⟩
            · exact g4 j' y (by omega) hy hy0
        · have hstep : shutStep F tj x = tj := by rw [shutStep, if_neg h0]
          rw [hstep]
          refine ⟨g1, fun c hc hcM => ?_, fun c hc => ?_, fun j' y hj' hy hy0 => ?_⟩
          · rcases (hgone c).1 hc with hc | ⟨hc, _⟩
            · exact g2 c hc hcM
            · exact absurd hc h0
          · exact g3 c (fun e => hc ((hgone c).2 (.inl e)))
          · by_cases e : j' = j
            · subst e
              rw [hx] at hy
              injection hy with hy
              subst hy
              exact absurd hy0 h0
            · exact g4 j' y (by omega) hy hy0
    obtain ⟨k1, k2, k3, k4⟩ := key l.length (Nat.le_refl _)
    rw [List.take_length] at k1 k2 k3
    exact ⟨fun j x hx h0 => k4 j x (List.getElem?_eq_some_iff.1 hx).1 hx h0, k2, k3⟩
end Ne
end Go.Proofs.Ytllmddhahpegmaa
