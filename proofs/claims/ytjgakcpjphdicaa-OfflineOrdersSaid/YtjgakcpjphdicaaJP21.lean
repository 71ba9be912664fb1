/- symMerge: the general case, plain. -/
import Derived.Test.YtjgakcpjphdicaaJP20
namespace Go.Proofs.Ytjgakcpjphdicaa
open Go.Sort Go.Proofs
namespace Of
section
variable {α : Type} [Inhabited α]
/-- Where the search for the parting begins and ends. -/
structure Bnd (a m b mid n s0 r0 : Nat) : Prop where
  nE : n = mid + m
  lo : a ≤ s0
  sr : s0 ≤ r0
  rm : r0 ≤ m
  rmid : r0 ≤ mid
  nb : n ≤ s0 + b
  sE : s0 = a ∨ n = s0 + b
  rE : r0 = m ∨ n = r0 + m
theorem bnd_left {a m b mid n : Nat} (h1 : a < m) (h2 : m < b) (hm : mid = (a + b) / 2) (hn : n = mid + m) (h : mid < m) : Bnd a m b mid n (n - b) mid := ⟨hn, by omega, by omega, by omega, Nat.le_refl _, by omega, .inr (by omega), .inr (by omega)⟩
theorem bnd_right {a m b mid n : Nat} (h1 : a < m) (h2 : m < b) (hm : mid = (a + b) / 2) (hn : n = mid + m) (h : ¬ mid < m) : Bnd a m b mid n a m := ⟨hn, Nat.le_refl _, by omega, Nat.le_refl _, by omega, by omega, .inl rfl, .inl rfl⟩
omit [Inhabited α] in
theorem asym {lt : α → α → Bool} (hS : SWO lt) {x y : α} (h : lt x y = true) : lt y x = false := by
  cases e2 : lt y x with
  | false => rfl
  | true => have := hS.trans _ _ _ h e2; rw [hS.irrefl] at this; cases this
/-- What the search for the parting has found. -/
structure Part (lt : α → α → Bool) (a m b mid n s0 r0 i : Nat) (d : Array α) : Prop where
  bnd : Bnd a m b mid n s0 r0
  si : s0 ≤ i
  ir : i ≤ r0
  low : ∀ c, s0 ≤ c → c < i → lt d[n - 1 - c]! d[c]! = false
  high : ∀ c, i ≤ c → c < r0 → lt d[n - 1 - c]! d[c]! = true
theorem mono_true {lt : α → α → Bool} (hS : SWO lt) {a m b n h c : Nat} {d : Array α} (h1 : SortedIn lt a m d) (h2 : SortedIn lt m b d) (hc : h ≤ c) (q1 : a ≤ h) (q2 : c < m) (q3 : m ≤ n - 1 - c) (q4 : n - 1 - h < b) (hl : lt d[n - 1 - h]! d[h]! = true) : lt d[n - 1 - c]! d[c]! = true := by
  cases e : lt d[n - 1 - c]! d[c]! with
  | true => rfl
  | false =>
    have z1 := SortedIn.le hS h2 q3 (by omega : n - 1 - c ≤ n - 1 - h) q4
    have z2 := SortedIn.le hS h1 q1 hc q2
    have := hS.ntrans _ _ _ (hS.ntrans _ _ _ z1 e) z2
    rw [hl] at this
    cases this
theorem mono_false {lt : α → α → Bool} (hS : SWO lt) {a m b n h c : Nat} {d : Array α} (h1 : SortedIn lt a m d) (h2 : SortedIn lt m b d) (hc : c ≤ h) (q1 : a ≤ c) (q2 : h < m) (q3 : m ≤ n - 1 - h) (q4 : n - 1 - c < b) (hl : lt d[n - 1 - h]! d[h]! = false) : lt d[n - 1 - c]! d[c]! = false :=
  hS.ntrans _ _ _ (hS.ntrans _ _ _ (SortedIn.le hS h2 q3 (by omega : n - 1 - h ≤ n - 1 - c) q4) hl) (SortedIn.le hS h1 q1 hc q2)
/-- Behind the rotation. -/
structure Rot (lt : α → α → Bool) (a b m mid e i : Nat) (d d1 : Array α) : Prop where
  perm : PermIn a b d d1
  s1 : SortedIn lt a i d1
  s2 : SortedIn lt i mid d1
  s3 : SortedIn lt mid e d1
  s4 : SortedIn lt e b d1
  cross : ∀ x y, a ≤ x → x < mid → mid ≤ y → y < b → lt d1[y]! d1[x]! = false
  src : ∀ x, d1[x]! = if i ≤ x ∧ x < mid then d[x + (m - i)]! else if mid ≤ x ∧ x < e then d[x - (e - m)]! else d[x]!
/-- What holds of a right and a left element holds of them in both halves. -/
theorem Rot.left {lt : α → α → Bool} {a b m mid e i : Nat} {d d1 : Array α} (h : Rot lt a b m mid e i d d1) (P : α → α → Prop) (hP : ∀ x y, m ≤ x → x < b → a ≤ y → y < m → P d[x]! d[y]!) (k1 : i ≤ m) (k3 : m ≤ e) (k4 : e ≤ b) (k7 : i + e = mid + m) :
    ∀ x y, i ≤ x → x < mid → a ≤ y → y < i → P d1[x]! d1[y]! := fun x y h1 h2 h3 h4 => by
  rw [h.src x, h.src y, if_pos ⟨h1, h2⟩, if_neg (by omega), if_neg (by omega)]
  exact hP _ _ (by omega) (by omega) h3 (by omega)
theorem Rot.right {lt : α → α → Bool} {a b m mid e i : Nat} {d d1 : Array α} (h : Rot lt a b m mid e i d d1) (P : α → α → Prop) (hP : ∀ x y, m ≤ x → x < b → a ≤ y → y < m → P d[x]! d[y]!) (k1 : i ≤ m) (k3 : m ≤ e) (k5 : a ≤ i) (k6 : mid ≤ e) (k7 : i + e = mid + m) :
    ∀ x y, e ≤ x → x < b → mid ≤ y → y < e → P d1[x]! d1[y]! := fun x y h1 h2 h3 h4 => by
  rw [h.src x, h.src y, if_neg (by omega), if_neg (by omega), if_neg (by omega), if_pos ⟨h3, h4⟩]
  exact hP _ _ (by omega) h2 (by omega) (by omega)
theorem Part.rot {lt : α → α → Bool} (hS : SWO lt) {a m b mid n s0 r0 i e : Nat} {d d1 : Array α} (h : Part lt a m b mid n s0 r0 i d) (he : e = n - i) (h1 : SortedIn lt a m d) (h2 : SortedIn lt m b d) (hp : PermIn a b d d1)
    (hd : ∀ x, d1[x]! = if i ≤ x ∧ x < mid then d[x + (m - i)]! else if mid ≤ x ∧ x < e then d[x - (e - m)]! else d[x]!) : Rot lt a b m mid e i d d1 := by
  obtain ⟨⟨b1, b2, b3, b4, b5, b6, b7, b8⟩, p1, p2, p3, p4⟩ := h
  obtain ⟨q1, q2, q3, q4, q5⟩ := sym_rot hS d d1 a m b mid i e (by omega) (by omega) (by omega) (by omega) (by omega) h1 h2 (by
    by_cases c : s0 < i
    · right; right
      have := p3 (i - 1) (by omega) (by omega)
      rw [show n - 1 - (i - 1) = e by omega] at this
      exact this
    · rcases b7 with b7 | b7
      · left; omega
      · right; left; omega) (by
    by_cases c : i < r0
    · right; right
      have := p4 i (Nat.le_refl _) c
      rw [show n - 1 - i = e - 1 by omega] at this
      exact asym hS this
    · rcases b8 with b8 | b8
      · left; omega
      · right; left; omega) hd
  exact ⟨hp, q1, q2, q3, q4, q5, hd⟩
/-- Behind the two merges. -/
theorem Rot.fin {lt : α → α → Bool} {a b m mid e i : Nat} {d d1 d2 d3 : Array α} (h : Rot lt a b m mid e i d d1) (ham : a ≤ mid) (hmb : mid ≤ b) (hb : b ≤ d.size) (p2 : PermIn a mid d1 d2) (s2 : SortedIn lt a mid d2) (p3 : PermIn mid b d2 d3) (s3 : SortedIn lt mid b d3) :
    PermIn a b d d3 ∧ SortedIn lt a b d3 := by
  have z1 := h.perm.1
  have z2 := p2.1
  have z3 := p3.1
  refine ⟨permIn_trans _ _ _ a b h.perm (permIn_trans _ _ _ a b (permIn_mono _ _ a mid a b (Nat.le_refl _) hmb (by omega) p2) (permIn_mono _ _ mid b a b ham (Nat.le_refl _) (by omega) p3)), join_sorted (fun p q h1 h2 h3 => ?_) s3 (fun x y h1 h2 h3 h4 => ?_)⟩
  · rw [p3.2.1 p (.inl (by omega)), p3.2.1 q (.inl h3)]
    exact s2 p q h1 h2 h3
  · rw [p3.2.1 x (.inl h2)]
    obtain ⟨x', hx1, hx2, ex⟩ := perm_from (by omega) p2 h1 h2
    obtain ⟨y', hy1, hy2, ey⟩ := perm_from (by omega) p3 h3 h4
    rw [ex, ey, p2.2.1 y' (.inr hy1)]
    exact h.cross x' y' hx1 hx2 hy1 hy2
end
end Of
end Go.Proofs.Ytjgakcpjphdicaa
