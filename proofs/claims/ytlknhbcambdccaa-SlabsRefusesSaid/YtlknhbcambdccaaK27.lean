/- Slabs, plain: the allocated objects: where they lie, what Alloc and Free do to them. Slabs, plain: what Alloc, Free and Trim do to the allocated objects. Load of a cache: when a state is valid; what is built. Load of a cache: plain laws of one slab more. -/
import Derived.Test.YtlknhbcambdccaaK18
import Derived.Test.YtlknhbcambdccaaK21
import Derived.Test.YtlknhbcambdccaaK23
import Derived.Test.YtlknhbcambdccaaK26
import Derived.Test.YtlknhbcambdccaaK10
namespace Go.Proofs.Ytlknhbcambdccaa
open Go.RowKit
namespace Sl
open Bu

theorem nat_asc_eq : ∀ {A B : List Nat}, A.Pairwise (· < ·) → B.Pairwise (· < ·) → (∀ x, x ∈ A ↔ x ∈ B) → A = B := by
  intro A
  induction A with
  | nil =>
    intro B _ _ h
    cases B with
    | nil => rfl
    | cons b B => exact absurd ((h b).2 (List.mem_cons_self ..)) (by simp)
  | cons a A ih =>
    intro B hA hB h
    cases B with
    | nil => exact absurd ((h a).1 (List.mem_cons_self ..)) (by simp)
    | cons b B =>
      rw [List.pairwise_cons] at hA hB
      have hab : a = b := by
        rcases List.mem_cons.1 ((h a).1 (List.mem_cons_self ..)) with e | e
        · exact e
        · have h1 := hB.1 a e
          rcases List.mem_cons.1 ((h b).2 (List.mem_cons_self ..)) with e2 | e2
          · exact e2.symm
          · have h2 := hA.1 b e2; omega
      subst hab
      congr 1
      refine ih hA.2 hB.2 fun x => ⟨fun hx => ?_, fun hx => ?_⟩
      · rcases List.mem_cons.1 ((h x).1 (List.mem_cons_of_mem _ hx)) with e | e
        · have := hA.1 x hx; omega
        · exact e
      · rcases List.mem_cons.1 ((h x).2 (List.mem_cons_of_mem _ hx)) with e | e
        · have := hB.1 x hx; omega
        · exact e

/-- The address of an allocated object. -/
def IsObj (C : Ca) (a : Nat) : Prop := ∃ (j : Nat) (x : Slb) (i : Nat), C.sl[j]? = some x ∧ x.us[i]? = some true ∧ a = addrS C.size x i

theorem mem_objP {size n a : Nat} {x : Slb} : a ∈ objP size x n ↔ ∃ i, i < n ∧ x.us[i]? = some true ∧ a = addrS size x i := by
  unfold objP
  rw [List.mem_map]
  constructor
  · rintro ⟨i, hi, rfl⟩
    rw [List.mem_filter, List.mem_range] at hi
    refine ⟨i, hi.1, ?_, rfl⟩
    have := hi.2
    rw [List.getD_eq_getElem?_getD] at this
    cases h : x.us[i]? with
    | none => rw [h] at this; cases this
    | some v => rw [h] at this; rw [show v = true from this]
  · rintro ⟨i, h1, h2, rfl⟩
    refine ⟨i, ?_, rfl⟩
    rw [List.mem_filter, List.mem_range]
    exact ⟨h1, by rw [List.getD_eq_getElem?_getD, h2]; rfl⟩
theorem mem_objC {C : Ca} {a : Nat} : a ∈ objC C ↔ IsObj C a := by
  unfold objC IsObj
  rw [List.mem_flatMap]
  constructor
  · rintro ⟨x, hx, ha⟩
    obtain ⟨j, hj⟩ := List.mem_iff_getElem?.1 hx
    obtain ⟨i, _, h2, h3⟩ := mem_objP.1 ha
    exact ⟨j, x, i, hj, h2, h3⟩
  · rintro ⟨j, x, i, h1, h2, h3⟩
    exact ⟨x, List.mem_of_getElem? h1, mem_objP.2 ⟨i, (List.getElem?_eq_some_iff.1 h2).1, h2, h3⟩⟩

theorem slot_in {C : Ca} {N : Nat} {L : List Blk} (h : CaOk C N L) {i : Nat} (hi : i < capa C.size C.order) : i * C.size + C.size ≤ 64 * 2 ^ C.order := by
  have h1 := (capa_pos h).2.2
  have h2 : (i + 1) * C.size ≤ capa C.size C.order * C.size := Nat.mul_le_mul_right _ hi
  rw [Nat.succ_mul] at h2
  omega

theorem slabs_far {C : Ca} {N : Nat} {L : List Blk} (h : CaOk C N L) {x y : Slb} (hx : x ∈ C.sl) (hy : y ∈ C.sl) (hlt : x.pg < y.pg) : x.pg + 2 ^ C.order ≤ y.pg := by
  obtain ⟨a, ha, hae⟩ := List.mem_iff_getElem.1 (h.giv x hx)
  obtain ⟨b, hb, hbe⟩ := List.mem_iff_getElem.1 (h.giv y hy)
  rcases Nat.lt_trichotomy a b with e | e | e
  · have := List.pairwise_iff_getElem.1 h.st.asc a b ha hb e
    rw [hae, hbe] at this
    exact this
  · subst e
    rw [hae] at hbe
    injection hbe with h1
    omega
  · have := List.pairwise_iff_getElem.1 h.st.asc b a hb ha e
    rw [hae, hbe] at this
    have h2 := pow_pos2 C.order
    have h3 : y.pg + 2 ^ C.order ≤ x.pg := this
    omega
theorem slab_same {C : Ca} {N : Nat} {L : List Blk} (h : CaOk C N L) {j k : Nat} {x y : Slb} (hx : C.sl[j]? = some x) (hy : C.sl[k]? = some y) (he : x.pg = y.pg) : j = k := by
  obtain ⟨hj, hje⟩ := List.getElem?_eq_some_iff.1 hx
  obtain ⟨hk, hke⟩ := List.getElem?_eq_some_iff.1 hy
  rcases Nat.lt_trichotomy j k with e | e | e
  · have := List.pairwise_iff_getElem.1 h.asc j k hj hk e
    rw [hje, hke] at this; omega
  · exact e
  · have := List.pairwise_iff_getElem.1 h.asc k j hk hj e
    rw [hje, hke] at this; omega

/-- Two places for objects: the same one, or without a byte in common. -/
theorem slots_far {C : Ca} {N : Nat} {L : List Blk} (h : CaOk C N L) {j k i t : Nat} {x y : Slb} (hx : C.sl[j]? = some x) (hy : C.sl[k]? = some y) (hi : i < x.us.length) (ht : t < y.us.length) :
    (j = k ∧ i = t) ∨ addrS C.size x i + C.size ≤ addrS C.size y t ∨ addrS C.size y t + C.size ≤ addrS C.size x i := by
  have hmx := List.mem_of_getElem? hx
  have hmy := List.mem_of_getElem? hy
  have s1 := slot_in h (i := i) (by rw [← h.len x hmx]; exact hi)
  have s2 := slot_in h (i := t) (by rw [← h.len y hmy]; exact ht)
  unfold addrS
  rcases Nat.lt_trichotomy x.pg y.pg with e | e | e
  · have := slabs_far h hmx hmy e
    right; left
    omega
  · have hjk := slab_same h hx hy e
    rcases Nat.lt_trichotomy i t with f | f | f
    · right; left
      have : (i + 1) * C.size ≤ t * C.size := Nat.mul_le_mul_right _ f
      rw [Nat.succ_mul] at this
      omega
    · exact .inl ⟨hjk, f⟩
    · right; right
      have : (t + 1) * C.size ≤ i * C.size := Nat.mul_le_mul_right _ f
      rw [Nat.succ_mul] at this
      omega
  · have := slabs_far h hmy hmx e
    right; right
    omega
theorem slot_eq {C : Ca} {N : Nat} {L : List Blk} (h : CaOk C N L) {j k i t : Nat} {x y : Slb} (hx : C.sl[j]? = some x) (hy : C.sl[k]? = some y) (hi : i < x.us.length) (ht : t < y.us.length) (he : addrS C.size x i = addrS C.size y t) : j = k ∧ i = t := by
  have h8 := h.sz.1
  rcases slots_far h hx hy hi ht with e | e | e
  · exact e
  · omega
  · omega

theorem asc_objP {size : Nat} (hs : 8 ≤ size) (x : Slb) (n : Nat) : (objP size x n).Pairwise (· < ·) := by
  unfold objP
  rw [List.pairwise_map]
  refine (List.pairwise_lt_range.filter _).imp ?_
  intro a b hab
  unfold addrS
  have : (a + 1) * size ≤ b * size := Nat.mul_le_mul_right _ hab
  rw [Nat.succ_mul] at this
  omega
theorem asc_objC {C : Ca} {N : Nat} {L : List Blk} (h : CaOk C N L) : (objC C).Pairwise (· < ·) := by
  have key : ∀ l : List Slb, l.Pairwise (fun a b => a.pg < b.pg) → (∀ x ∈ l, x ∈ C.sl) → (l.flatMap fun x => objP C.size x x.us.length).Pairwise (· < ·) := by
    intro l
    induction l with
    | nil => intro _ _; exact List.Pairwise.nil
    | cons y l ih =>
      intro hp hm
      rw [List.pairwise_cons] at hp
      rw [List.flatMap_cons, List.pairwise_append]
      refine ⟨asc_objP h.sz.1 _ _, ih hp.2 fun x hx => hm x (List.mem_cons_of_mem _ hx), fun a ha b hb => ?_⟩
      obtain ⟨i, hi, h1, rfl⟩ := mem_objP.1 ha
      rw [List.mem_flatMap] at hb
      obtain ⟨z, hz, hb⟩ := hb
      obtain ⟨t, ht, h2, rfl⟩ := mem_objP.1 hb
      have hym := hm y (List.mem_cons_self ..)
      have hzm := hm z (List.mem_cons_of_mem _ hz)
      have h3 := slabs_far h hym hzm (hp.1 z hz)
      have s1 := slot_in h (i := i) (by rw [← h.len y hym]; exact hi)
      have h8 := h.sz.1
      unfold addrS
      omega
  exact key C.sl h.asc fun x hx => hx

/-- Where an object lies. -/
theorem hold_of {C : Ca} {N : Nat} {L : List Blk} (h : CaOk C N L) {j i : Nat} {x : Slb} (hx : C.sl[j]? = some x) (hi : i < x.us.length) : holdS C.order 0 C.sl ((addrS C.size x i : Nat) : Int) = some (j, i * C.size) := by
  have hm := List.mem_of_getElem? hx
  have s1 := slot_in h (i := i) (by rw [← h.len x hm]; exact hi)
  have h8 := h.sz.1
  have hit : hitS C.order ((addrS C.size x i : Nat) : Int) x := by unfold hitS addrS; omega
  have := holdS_at (order := C.order) (at_ := ((addrS C.size x i : Nat) : Int)) 0 j hx hit fun k y hk hy hh => by
    obtain ⟨hk1, hk2⟩ := List.getElem?_eq_some_iff.1 hy
    obtain ⟨hj1, hj2⟩ := List.getElem?_eq_some_iff.1 hx
    have hlt := List.pairwise_iff_getElem.1 h.asc k j hk1 hj1 hk
    rw [hk2, hj2] at hlt
    have hf := slabs_far h (List.mem_of_getElem? hy) hm hlt
    unfold hitS addrS at hh
    omega
  rw [this]
  congr 2
  · omega
  · unfold addrS; omega
end Sl
end Go.Proofs.Ytlknhbcambdccaa
namespace Go.Proofs.Ytlknhbcambdccaa
open Go.RowKit
namespace Sl
open Bu

theorem isObj_mem {C : Ca} {a : Nat} : IsObj C a ↔ ∃ x ∈ C.sl, ∃ i, x.us[i]? = some true ∧ a = addrS C.size x i := by
  constructor
  · rintro ⟨j, x, i, h1, h2, h3⟩
    exact ⟨x, List.mem_of_getElem? h1, i, h2, h3⟩
  · rintro ⟨x, hx, i, h2, h3⟩
    obtain ⟨j, hj⟩ := List.mem_iff_getElem?.1 hx
    exact ⟨j, x, i, hj, h2, h3⟩

theorem obj_far {C : Ca} {N : Nat} {L : List Blk} (h : CaOk C N L) {a b : Nat} (ha : IsObj C a) (hb : IsObj C b) (hne : a ≠ b) : a + C.size ≤ b ∨ b + C.size ≤ a := by
  obtain ⟨j, x, i, h1, h2, rfl⟩ := ha
  obtain ⟨k, y, t, h3, h4, rfl⟩ := hb
  rcases slots_far h h1 h3 (List.getElem?_eq_some_iff.1 h2).1 (List.getElem?_eq_some_iff.1 h4).1 with ⟨e1, e2⟩ | e | e
  · subst e1; subst e2
    rw [h1] at h3
    injection h3 with h3
    subst h3
    exact absurd rfl hne
  · exact .inl e
  · exact .inr e
theorem obj_in {C : Ca} {N : Nat} {L : List Blk} (h : CaOk C N L) {a : Nat} (ha : IsObj C a) : a % 8 = 0 ∧ a < 66000 ∧ ∃ x ∈ C.sl, 64 * x.pg ≤ a ∧ a + C.size ≤ 64 * x.pg + 64 * 2 ^ C.order := by
  obtain ⟨x, hx, i, h2, rfl⟩ := isObj_mem.1 ha
  have s1 := slot_in h (i := i) (by rw [← h.len x hx]; exact (List.getElem?_eq_some_iff.1 h2).1)
  have hp : x.pg + 2 ^ C.order ≤ 1024 := (st_le h.st _ (h.giv x hx)).2
  have h8 := h.sz
  refine ⟨?_, ?_, x, hx, ?_, ?_⟩
  · unfold addrS
    obtain ⟨q, hq⟩ : ∃ q, C.size = 8 * q := ⟨C.size / 8, by omega⟩
    rw [hq, show i * (8 * q) = 8 * (i * q) by rw [← Nat.mul_assoc, Nat.mul_comm i 8, Nat.mul_assoc]]
    omega
  · unfold addrS; omega
  · unfold addrS; omega
  · unfold addrS; omega

theorem obj_set {C : Ca} {N : Nat} {L : List Blk} (h : CaOk C N L) {j i : Nat} {x : Slb} (hx : C.sl[j]? = some x) (hi : i < x.us.length) (v : Bool) (z : Nat) :
    IsObj { C with sl := setS C.sl j i v } z ↔ (v = true ∧ z = addrS C.size x i) ∨ (IsObj C z ∧ z ≠ addrS C.size x i) := by
  have hset := setS_eq (i := i) (v := v) hx
  have hj := (List.getElem?_eq_some_iff.1 hx).1
  constructor
  · rintro ⟨k, y, t, h1, h2, h3⟩
    have h1 : (setS C.sl j i v)[k]? = some y := h1
    rw [hset] at h1
    by_cases e : j = k
    · subst e
      rw [List.getElem?_set_self hj] at h1
      injection h1 with h1
      subst h1
      have h2 : (x.us.set i v)[t]? = some true := h2
      by_cases f : i = t
      · subst f
        rw [List.getElem?_set_self hi] at h2
        injection h2 with h2
        exact .inl ⟨h2, h3⟩
      · rw [List.getElem?_set_ne f] at h2
        have ht := (List.getElem?_eq_some_iff.1 h2).1
        refine .inr ⟨⟨j, x, t, hx, h2, h3⟩, fun he => f ?_⟩
        have h3 : z = addrS C.size x t := h3
        exact (slot_eq h hx hx hi ht (by rw [← he, h3])).2
    · rw [List.getElem?_set_ne e] at h1
      have ht := (List.getElem?_eq_some_iff.1 h2).1
      refine .inr ⟨⟨k, y, t, h1, h2, h3⟩, fun he => e ?_⟩
      have h3 : z = addrS C.size y t := h3
      exact (slot_eq h hx h1 hi ht (by rw [← he, h3])).1
  · have hself : (setS C.sl j i v)[j]? = some ⟨x.pg, x.us.set i v⟩ := by rw [hset, List.getElem?_set_self hj]
    rintro (⟨rfl, rfl⟩ | ⟨⟨k, y, t, h1, h2, h3⟩, hne⟩)
    · exact ⟨j, _, i, hself, List.getElem?_set_self hi, rfl⟩
    · by_cases e : j = k
      · subst e
        rw [hx] at h1
        injection h1 with h1
        subst h1
        have f : i ≠ t := fun f => hne (by rw [h3, f])
        exact ⟨j, _, t, hself, by show (x.us.set i v)[t]? = _; rw [List.getElem?_set_ne f]; exact h2, h3⟩
      · exact ⟨k, y, t, by show (setS C.sl j i v)[k]? = _; rw [hset, List.getElem?_set_ne e]; exact h1, h2, h3⟩

theorem none_many {x : Slb} (h : x.many = 0) (i : Nat) : x.us[i]? ≠ some true := fun he => by
  have : 1 ≤ x.us.count true := List.count_pos_iff.2 (List.mem_of_getElem? he)
  unfold Slb.many at h
  omega
theorem obj_erase {C : Ca} {k : Nat} {y : Slb} (hy : C.sl[k]? = some y) (hz : y.many = 0) (z : Nat) : IsObj { C with sl := C.sl.eraseIdx k } z ↔ IsObj C z := by
  rw [isObj_mem, isObj_mem]
  constructor
  · rintro ⟨x, hx, r⟩
    exact ⟨x, List.mem_of_mem_eraseIdx hx, r⟩
  · rintro ⟨x, hx, i, h1, h2⟩
    obtain ⟨j, hj⟩ := List.mem_iff_getElem?.1 hx
    have hjk : j ≠ k := fun e => by
      subst e
      rw [hy] at hj
      injection hj with hj
      subst hj
      exact none_many hz i h1
    exact ⟨x, List.mem_eraseIdx_iff_getElem?.2 ⟨j, hjk, hj⟩, i, h1, h2⟩

/-- The allocator has given the cache's slabs, and nothing else. -/
def Exact (C : Ca) (L : List Blk) : Prop := ∀ z ∈ L, ∃ x ∈ C.sl, z = (x.pg, C.order)

theorem exact_set {C : Ca} {L : List Blk} {j i : Nat} {x : Slb} {v : Bool} (h : Exact C L) (hx : C.sl[j]? = some x) : Exact { C with sl := setS C.sl j i v } L := by
  intro z hz
  obtain ⟨y, hy, rfl⟩ := h z hz
  obtain ⟨k, hk⟩ := List.mem_iff_getElem?.1 hy
  have hset := setS_eq (i := i) (v := v) hx
  have hj := (List.getElem?_eq_some_iff.1 hx).1
  by_cases e : j = k
  · subst e
    rw [hx] at hk
    injection hk with hk
    subst hk
    exact ⟨⟨x.pg, x.us.set i v⟩, List.mem_of_getElem? (i := j) (by show (setS C.sl j i v)[j]? = _; rw [hset, List.getElem?_set_self hj]), rfl⟩
  · exact ⟨y, List.mem_of_getElem? (i := k) (by show (setS C.sl j i v)[k]? = _; rw [hset, List.getElem?_set_ne e]; exact hk), rfl⟩
theorem exact_del {C : Ca} {L : List Blk} {k : Nat} {y : Slb} (h : Exact C L) (hy : C.sl[k]? = some y) : Exact { C with sl := C.sl.eraseIdx k } (delB L (y.pg, C.order)) := by
  intro z hz
  obtain ⟨h1, h2⟩ := mem_delB.1 hz
  obtain ⟨x, hx, rfl⟩ := h z h1
  obtain ⟨j, hj⟩ := List.mem_iff_getElem?.1 hx
  have hjk : j ≠ k := fun e => by
    subst e
    rw [hy] at hj
    injection hj with hj
    subst hj
    exact h2 rfl
  exact ⟨x, List.mem_eraseIdx_iff_getElem?.2 ⟨j, hjk, hj⟩, rfl⟩

/-- Free of an allocated object. -/
theorem free_obj {C : Ca} {N : Nat} {L : List Blk} (h : CaOk C N L) {a : Nat} (ha : IsObj C a) :
    ∃ sl L', freeC C L (a : Int) = (0, sl, L') ∧ (∀ z, IsObj { C with sl := sl } z ↔ IsObj C z ∧ z ≠ a) ∧ (Exact C L → Exact { C with sl := sl } L') := by
  obtain ⟨j, x, i, hx, hv, rfl⟩ := ha
  have hi := (List.getElem?_eq_some_iff.1 hv).1
  have hh := hold_of h hx hi
  have hd : i * C.size / C.size = i := Nat.mul_div_cancel _ (by have := h.sz.1; omega)
  have hf := freeC_hit (L := L) hh hx
  rw [hd, if_neg (by rw [Nat.mul_mod_left]; omega), if_neg (fun hn => hn hv)] at hf
  have hso := obj_set h hx hi false
  by_cases he : emptyS (setS C.sl j i false) ≤ C.keep
  · rw [if_pos he] at hf
    refine ⟨_, _, hf, fun z => ?_, fun hE => exact_set hE hx⟩
    rw [hso z]
    simp
  · rw [if_neg he] at hf
    cases hk : lastE (setS C.sl j i false) with
    | none =>
      rw [hk] at hf
      refine ⟨_, _, hf, fun z => ?_, fun hE => exact_set hE hx⟩
      rw [hso z]
      simp
    | some k =>
      rw [hk] at hf
      obtain ⟨y, hy, hz⟩ := lastE_some hk
      simp only [hy] at hf
      refine ⟨_, _, hf, fun z => ?_, fun hE => exact_del (C := { C with sl := setS C.sl j i false }) (exact_set hE hx) hy⟩
      rw [obj_erase (C := { C with sl := setS C.sl j i false }) hy hz z, hso z]
      simp

/-- Alloc where there is room. -/
theorem alloc_obj {C : Ca} {N : Nat} {L : List Blk} (h : CaOk C N L) {a : Nat} {sl : List Slb} {L' : List Blk} (ha : allocC C N L = some (a, sl, L')) :
    (∀ z, IsObj { C with sl := sl } z ↔ z = a ∨ IsObj C z) ∧ ¬ IsObj C a ∧ (Exact C L → Exact { C with sl := sl } L') := by
  unfold allocC at ha
  cases hp : pickS 0 none C.sl with
  | some jm =>
    obtain ⟨j, m⟩ := jm
    obtain ⟨x, hx, hxm, hml, _⟩ := pickS_some (l := C.sl) (k := C.sl.length) (Nat.le_refl _) (by rw [List.take_length]; exact hp)
    rw [hp] at ha
    simp only [hx] at ha
    injection ha with ha
    injection ha with h1 h2
    injection h2 with h2 h3
    subst h1; subst h2; subst h3
    obtain ⟨hfi, hfv⟩ := freeI_lt (x := x) (by omega)
    have hno : ¬ IsObj C (addrS C.size x (freeI x.us)) := by
      rintro ⟨k, y, t, g1, g2, g3⟩
      obtain ⟨e1, e2⟩ := slot_eq h hx g1 hfi (List.getElem?_eq_some_iff.1 g2).1 g3
      subst e1
      rw [hx] at g1
      injection g1 with g1
      subst g1
      rw [← e2, hfv] at g2
      cases g2
    refine ⟨fun z => ?_, hno, fun hE => exact_set hE hx⟩
    rw [obj_set h hx hfi true z]
    constructor
    · rintro (⟨_, e⟩ | ⟨e, _⟩)
      · exact .inl e
      · exact .inr e
    · rintro (e | e)
      · exact .inl ⟨rfl, e⟩
      · exact .inr ⟨e, fun e2 => hno (e2 ▸ e)⟩
  | none =>
    rw [hp] at ha
    cases hb : allocB N L C.order with
    | none => simp only [hb] at ha; cases ha
    | some pl =>
      obtain ⟨p, L2⟩ := pl
      simp only [hb] at ha
      injection ha with ha
      injection ha with h1 h2
      injection h2 with h2 h3
      subst h1; subst h2; subst h3
      have hcp := (capa_pos h).1
      have hfresh := fresh_page h hb
      have hput := put_is hb
      have hus : ∀ i, (true :: List.replicate (capa C.size C.order - 1) false)[i]? = some true ↔ i = 0 := by
        intro i
        cases i with
        | zero => simp
        | succ i =>
          rw [List.getElem?_cons_succ, List.getElem?_replicate]
          split <;> simp
      have hok := ok_ins (us := true :: List.replicate (capa C.size C.order - 1) false) h hb (by rw [List.length_cons, List.length_replicate]; omega) (by simp)
      have hadr : addrS C.size ⟨p, true :: List.replicate (capa C.size C.order - 1) false⟩ 0 = 64 * p := by unfold addrS; simp
      refine ⟨fun z => ?_, fun hn => ?_, fun hE z hz => ?_⟩
      · rw [isObj_mem, isObj_mem]
        constructor
        · rintro ⟨x, hx, i, g1, g2⟩
          rcases mem_insS.1 hx with e | e
          · subst e
            have := (hus i).1 g1
            subst this
            exact .inl (g2.trans hadr)
          · exact .inr ⟨x, e, i, g1, g2⟩
        · rintro (e | ⟨x, hx, i, g1, g2⟩)
          · exact ⟨_, mem_insS.2 (.inl rfl), 0, (hus 0).2 rfl, e.trans hadr.symm⟩
          · exact ⟨x, mem_insS.2 (.inr hx), i, g1, g2⟩
      · obtain ⟨x, hx, i, g1, g2⟩ := isObj_mem.1 hn
        have hne := hfresh x hx
        obtain ⟨k, hk⟩ := List.mem_iff_getElem?.1 (show x ∈ insS C.sl ⟨p, true :: List.replicate (capa C.size C.order - 1) false⟩ from mem_insS.2 (.inr hx))
        obtain ⟨k2, hk2⟩ := List.mem_iff_getElem?.1 (show (⟨p, true :: List.replicate (capa C.size C.order - 1) false⟩ : Slb) ∈ insS C.sl ⟨p, true :: List.replicate (capa C.size C.order - 1) false⟩ from mem_insS.2 (.inl rfl))
        have := (slot_eq hok hk2 hk (i := 0) (by simp) (List.getElem?_eq_some_iff.1 g1).1 (hadr.trans g2)).1
        subst this
        rw [hk2] at hk
        injection hk with hk
        subst hk
        exact hne rfl
      · rw [hput] at hz
        rcases mem_putB.1 hz with e | e
        · exact ⟨_, mem_insS.2 (.inl rfl), e⟩
        · obtain ⟨x, hx, he⟩ := hE z e
          exact ⟨x, mem_insS.2 (.inr hx), he⟩

/-- Alloc where there is none. -/
theorem alloc_noroom {C : Ca} {N : Nat} {L : List Blk} (h : CaOk C N L) (ha : allocC C N L = none) : (∀ x ∈ C.sl, x.many = capa C.size C.order) ∧ roomB C.order (blocksB N L) = 0 := by
  unfold allocC at ha
  cases hp : pickS 0 none C.sl with
  | some jm =>
    obtain ⟨j, m⟩ := jm
    obtain ⟨x, hx, _⟩ := pickS_some (l := C.sl) (k := C.sl.length) (Nat.le_refl _) (by rw [List.take_length]; exact hp)
    rw [hp] at ha
    simp only [hx] at ha
    cases ha
  | none =>
    refine ⟨fun x hx => ?_, ?_⟩
    · obtain ⟨i, hi⟩ := List.mem_iff_getElem?.1 hx
      have h1 := pickS_none (l := C.sl) (k := C.sl.length) (Nat.le_refl _) (by rw [List.take_length]; exact hp) i x (List.getElem?_eq_some_iff.1 hi).1 hi
      have h2 := many_le x
      rw [h.len x hx] at h1 h2
      omega
    · rw [hp] at ha
      have hb : allocB N L C.order = none := by
        cases hb : allocB N L C.order with
        | none => rfl
        | some pl => obtain ⟨p, L2⟩ := pl; simp only [hb] at ha; cases ha
      have := room_step h.st C.order
      rw [hb] at this
      exact this

/-- Trim where nothing is allocated. -/
theorem trim_all {C : Ca} {L : List Blk} (h : ∀ a, ¬ IsObj C a) (hE : Exact C L) : (trimC C).sl = [] ∧ trimL C L = [] := by
  have hz : ∀ x ∈ C.sl, x.many = 0 := fun x hx => by
    refine Classical.byContradiction fun hn => ?_
    have hp : 0 < x.us.count true := Nat.pos_of_ne_zero hn
    obtain ⟨i, hi⟩ := List.mem_iff_getElem?.1 (List.count_pos_iff.1 hp)
    exact h _ (isObj_mem.2 ⟨x, hx, i, hi, rfl⟩)
  refine ⟨?_, ?_⟩
  · show C.sl.filter full0 = []
    rw [List.filter_eq_nil_iff]
    intro x hx
    unfold full0
    simp [hz x hx]
  · unfold trimL delK
    rw [List.filter_eq_self.2 fun x hx => by simp [hz x hx]]
    have key : ∀ (l : List Slb) (M : List Blk) (z : Blk), z ∈ l.foldr (fun x M => delB M (x.pg, C.order)) M → z ∈ M ∧ ∀ x ∈ l, z ≠ (x.pg, C.order) := by
      intro l
      induction l with
      | nil => intro M z hz; exact ⟨hz, fun x hx => by cases hx⟩
      | cons y l ih =>
        intro M z hz
        rw [List.foldr_cons] at hz
        obtain ⟨h1, h2⟩ := mem_delB.1 hz
        obtain ⟨h3, h4⟩ := ih M z h1
        refine ⟨h3, fun x hx => ?_⟩
        rcases List.mem_cons.1 hx with e | e
        · subst e; exact h2
        · exact h4 x e
    refine List.eq_nil_iff_forall_not_mem.2 fun z hz => ?_
    obtain ⟨h1, h2⟩ := key _ _ _ hz
    obtain ⟨x, hx, he⟩ := hE z h1
    exact h2 x hx he
end Sl
end Go.Proofs.Ytlknhbcambdccaa
namespace Go.Proofs.Ytlknhbcambdccaa
open Go.RowKit
namespace Sl
open Bu

/-- What holds of a slab of a valid state. -/
def GoodX (L : List Blk) (o cap : Nat) (last : Int) (x : Int × List Bool) : Prop := 0 ≤ x.1 ∧ (x.1.toNat, o) ∈ L ∧ last < x.1 ∧ x.2.length = cap
def lastOf (l : List (Int × List Bool)) (i : Nat) : Int := if i = 0 then -1 else ((l[i - 1]?).map (·.1)).getD 0
def OkX (L : List Blk) (o cap : Nat) (l : List (Int × List Bool)) : Prop := ∀ (i : Nat) (x : Int × List Bool), l[i]? = some x → GoodX L o cap (lastOf l i) x
def toSlb (x : Int × List Bool) : Slb := ⟨x.1.toNat, x.2⟩
def loadS (l : List (Int × List Bool)) : List Slb := l.map toSlb
theorem loadS_get {l : List (Int × List Bool)} {i : Nat} {x : Slb} (h : (loadS l)[i]? = some x) : ∃ y, l[i]? = some y ∧ x = toSlb y := by
  unfold loadS at h
  rw [List.getElem?_map] at h
  obtain ⟨y, h1, h2⟩ := Option.map_eq_some_iff.1 h
  exact ⟨y, h1, h2.symm⟩

theorem okX_lt {L : List Blk} {o cap : Nat} {l : List (Int × List Bool)} (h : OkX L o cap l) : ∀ (j i : Nat) (x y : Int × List Bool), i < j → l[i]? = some x → l[j]? = some y → x.1 < y.1 := by
  intro j
  induction j with
  | zero => intro i x y hij; omega
  | succ j ih =>
    intro i x y hij hx hy
    have h1 := (h (j + 1) y hy).2.2.1
    unfold lastOf at h1
    rw [if_neg (by omega), Nat.add_sub_cancel] at h1
    obtain ⟨z, hz⟩ : ∃ z, l[j]? = some z := ⟨_, List.getElem?_eq_getElem (by have := (List.getElem?_eq_some_iff.1 hy).1; omega)⟩
    rw [hz] at h1
    have h1 : z.1 < y.1 := h1
    by_cases e : i = j
    · subst e
      rw [hx] at hz
      injection hz with hz
      rw [hz]; exact h1
    · have := ih i x z (by omega) hx hz
      omega

/-- A valid state makes a cache. -/
theorem okX_ca {N s o k : Nat} {L : List Blk} {l : List (Int × List Bool)} (hsz : sizesB (s : Int) (o : Int) (k : Int) = true) (hS : St N L) (h : OkX L o (capa s o) l) (he : emptyS (loadS l) ≤ k) : CaOk ⟨s, o, k, loadS l⟩ N L := by
  unfold sizesB at hsz
  rw [decide_eq_true_eq] at hsz
  obtain ⟨h1, h2, h3, h4, h5, h6, h7, h8⟩ := hsz
  rw [Int.toNat_natCast] at h8
  have key : ∀ x ∈ loadS l, ∃ y ∈ l, x = toSlb y := fun x hx => by
    obtain ⟨y, hy, rfl⟩ := List.mem_map.1 hx
    exact ⟨y, hy, rfl⟩
  have good : ∀ y ∈ l, 0 ≤ y.1 ∧ (y.1.toNat, o) ∈ L ∧ y.2.length = capa s o := fun y hy => by
    obtain ⟨i, hi⟩ := List.mem_iff_getElem?.1 hy
    obtain ⟨g1, g2, _, g4⟩ := h i y hi
    exact ⟨g1, g2, g4⟩
  refine ⟨⟨by show 8 ≤ s; omega, by show s ≤ 1024; omega, by show s % 8 = 0; omega⟩, by show o ≤ 4; omega, by show k ≤ 64; omega, by show s ≤ 64 * 2 ^ o; omega, hS, ?_, fun x hx => ?_, fun x hx => ?_, he⟩
  · show (loadS l).Pairwise _
    rw [List.pairwise_iff_getElem]
    intro i j hi hj hij
    obtain ⟨x, hx, hxe⟩ := loadS_get (List.getElem?_eq_getElem hi)
    obtain ⟨y, hy, hye⟩ := loadS_get (List.getElem?_eq_getElem hj)
    rw [hxe, hye]
    have hlt := okX_lt h j i x y hij hx hy
    have h0 := (good x (List.mem_of_getElem? hx)).1
    show x.1.toNat < y.1.toNat
    omega
  · obtain ⟨y, hy, rfl⟩ := key x hx
    exact (good y hy).2.1
  · obtain ⟨y, hy, rfl⟩ := key x hx
    exact (good y hy).2.2

/-- Owner of the allocator, of any page: is it the first one of a given block of an order? -/
theorem owner_any (w : World) (b N : Nat) (L : List Blk) (page : Int) (o : Nat) (h : BuL w b N L) :
    Calls Try.prog 61 #[.pointer (some ⟨b, 0, none⟩), .int .i64 page] w fun e w' => (∃ pp oo er : Int, e = .returned (.tuple #[.agg #[.int .i64 pp, .int .i64 oo], .int .i64 er]) ∧ ((er = 0 ∧ pp = page ∧ oo = (o : Int)) ↔ (0 ≤ page ∧ (page.toNat, o) ∈ L))) ∧ Below w.heap.size w w' := by
  by_cases hp : page < 0 ∨ ((2 ^ N : Nat) : Int) ≤ page
  · refine (ownerL_bad w b N L page h hp).mono ?_
    rintro e w' ⟨he, hb⟩
    refine ⟨⟨0, 0, 7, he, ⟨fun h => by omega, fun ⟨h1, h2⟩ => ?_⟩⟩, hb⟩
    have := st_le h.2 _ h2
    have h3 := (h.2.inb _ h2)
    exfalso
    have h4 : page.toNat + 2 ^ o ≤ 2 ^ N := h3.2.2
    have := pow_pos2 o
    omega
  · obtain ⟨p, rfl⟩ := Int.eq_ofNat_of_zero_le (show 0 ≤ page by omega)
    have hp2 : p < 2 ^ N := by omega
    refine (ownerL_ok w b N L p h hp2).mono ?_
    rintro e w' ⟨he, hb⟩
    refine ⟨?_, hb⟩
    cases ho : ownerB L p with
    | none =>
      rw [ho] at he
      refine ⟨0, 0, 4, he, ⟨fun h => by omega, fun ⟨_, h2⟩ => ?_⟩⟩
      rw [Int.toNat_natCast] at h2
      exact absurd ⟨Nat.le_refl _, (by have := pow_pos2 o; show p < p + 2 ^ o; omega)⟩ (ownerB_none ho h2)
    | some x =>
      rw [ho] at he
      obtain ⟨g1, g2, g3⟩ := ownerB_some ho
      refine ⟨(x.1 : Int), (x.2 : Int), 0, he, ⟨fun ⟨_, h1, h2⟩ => ⟨by omega, ?_⟩, fun ⟨_, h2⟩ => ?_⟩⟩
      · have e1 : x.1 = p := by omega
        have e2 : x.2 = o := by omega
        rw [Int.toNat_natCast, ← e1, ← e2]; exact g1
      · rw [Int.toNat_natCast] at h2
        have h3 := ownerB_of h.2 (p := p) h2 (Nat.le_refl _) (by have := pow_pos2 o; show p < p + 2 ^ o; omega)
        rw [ho] at h3
        injection h3 with h3
        rw [h3]
        exact ⟨rfl, rfl, rfl⟩
end Sl
end Go.Proofs.Ytlknhbcambdccaa
namespace Go.Proofs.Ytlknhbcambdccaa
namespace Sl
open Bu

theorem take_snocX {α : Type} {l : List α} {k : Nat} {x : α} (h : l[k]? = some x) : l.take (k + 1) = l.take k ++ [x] := by
  obtain ⟨hk, he⟩ := List.getElem?_eq_some_iff.1 h
  rw [List.take_succ_eq_append_getElem hk, he]
theorem load_snoc {l : List (Int × List Bool)} {k : Nat} {x : Int × List Bool} (h : l[k]? = some x) : loadS (l.take (k + 1)) = loadS (l.take k) ++ [toSlb x] := by
  rw [take_snocX h]; unfold loadS; rw [List.map_append]; rfl
theorem empty_snoc (a : List Slb) (x : Slb) : emptyS (a ++ [x]) = emptyS a + if x.many = 0 then 1 else 0 := by
  unfold emptyS
  rw [List.filter_append, List.length_append]
  by_cases h : x.many = 0 <;> simp [h]
theorem lastOf_succ {l : List (Int × List Bool)} {k : Nat} {x : Int × List Bool} (h : l[k]? = some x) : lastOf l (k + 1) = x.1 := by
  unfold lastOf
  rw [if_neg (by omega), Nat.add_sub_cancel, h]; rfl
theorem lastOf_take {l : List (Int × List Bool)} {k i : Nat} (h : i ≤ k) : lastOf (l.take k) i = lastOf l i := by
  unfold lastOf
  by_cases h0 : i = 0
  · rw [if_pos h0, if_pos h0]
  · rw [if_neg h0, if_neg h0, List.getElem?_take, if_pos (by omega)]
theorem okX_snoc {L : List Blk} {o cap k : Nat} {l : List (Int × List Bool)} {x : Int × List Bool} (h : OkX L o cap (l.take k)) (hx : l[k]? = some x) (hg : GoodX L o cap (lastOf l k) x) : OkX L o cap (l.take (k + 1)) := by
  intro i y hy
  rw [List.getElem?_take] at hy
  split at hy
  · next hi =>
    rw [lastOf_take (by omega)]
    by_cases e : i = k
    · subst e
      rw [hx] at hy; injection hy with hy
      rw [← hy]; exact hg
    · have := h i y (by rw [List.getElem?_take, if_pos (by omega)]; exact hy)
      rw [lastOf_take (by omega)] at this
      exact this
  · cases hy
/-- Every page so far is less than the next one. -/
theorem okX_below {L : List Blk} {o cap k : Nat} {l : List (Int × List Bool)} {x : Int × List Bool} (h : OkX L o cap (l.take k)) (hx : l[k]? = some x) (hg : GoodX L o cap (lastOf l k) x) : ∀ y ∈ loadS (l.take k), y.pg < x.1.toNat := by
  have h1 := okX_snoc h hx hg
  intro y hy
  obtain ⟨i, hi⟩ := List.mem_iff_getElem?.1 hy
  obtain ⟨z, hz, rfl⟩ := loadS_get hi
  have hik : i < k := by
    rw [List.getElem?_take] at hz
    split at hz
    · assumption
    · cases hz
  have hz2 : l[i]? = some z := by rw [List.getElem?_take, if_pos hik] at hz; exact hz
  have := okX_lt h1 k i z x hik (by rw [List.getElem?_take, if_pos (by omega)]; exact hz2) (by rw [List.getElem?_take, if_pos (by omega)]; exact hx)
  have h0 := (h i z hz).1
  show z.1.toNat < x.1.toNat
  omega
theorem okX_idx {L : List Blk} {o cap : Nat} {l : List (Int × List Bool)} (h : OkX L o cap l) : ∀ (i : Nat) (x : Int × List Bool), l[i]? = some x → (i : Int) ≤ x.1 := by
  intro i
  induction i with
  | zero => intro x hx; exact (h 0 x hx).1
  | succ i ih =>
    intro x hx
    obtain ⟨y, hy⟩ : ∃ y, l[i]? = some y := ⟨_, List.getElem?_eq_getElem (by have := (List.getElem?_eq_some_iff.1 hx).1; omega)⟩
    have h1 := ih y hy
    have h2 := okX_lt h (i + 1) i y x (by omega) hy hx
    omega
theorem okX_len {N : Nat} {L : List Blk} {o cap : Nat} {l : List (Int × List Bool)} (hS : St N L) (h : OkX L o cap l) : l.length ≤ 1024 := by
  by_cases hl : l.length = 0
  · omega
  obtain ⟨x, hx⟩ : ∃ x, l[l.length - 1]? = some x := ⟨_, List.getElem?_eq_getElem (by omega)⟩
  have h1 := okX_idx h _ x hx
  have h2 := st_le hS _ (h _ x hx).2.1
  have h3 : x.1.toNat + 2 ^ o ≤ 1024 := h2.2
  have h4 := (h _ x hx).1
  have := pow_pos2 o
  omega
theorem posS_all {l : List Slb} {p : Nat} (h : ∀ y ∈ l, y.pg < p) : posS l p = l.length := by
  unfold posS
  induction l with
  | nil => rfl
  | cons y l ih =>
    rw [List.takeWhile_cons, if_pos (decide_eq_true (h y (List.mem_cons_self ..))), List.length_cons, ih (fun z hz => h z (List.mem_cons_of_mem _ hz)), List.length_cons]
theorem insS_all {l : List Slb} {x : Slb} (h : ∀ y ∈ l, y.pg < x.pg) : insS l x = l ++ [x] := by
  rw [insS_at (fun y hy => by have := h y hy; omega), posS_all h, List.take_of_length_le (Nat.le_refl _), List.drop_eq_nil_of_le (Nat.le_refl _)]
end Sl
end Go.Proofs.Ytlknhbcambdccaa
