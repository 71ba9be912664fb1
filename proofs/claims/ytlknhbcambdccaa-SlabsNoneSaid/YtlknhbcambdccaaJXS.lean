/- Slabs, plain: the allocated objects: where they lie, what Alloc and Free do to them. -/
import Derived.Test.YtlknhbcambdccaaK25
import Derived.Test.YtlknhbcambdccaaK28
import Derived.Test.YtlknhbcambdccaaK30
import Derived.Test.YtlknhbcambdccaaK27
namespace Go.Proofs.Ytlknhbcambdccaa
open Go.RowKit
namespace Sl
open Bu

theorem nat_asc_eq : ∀ {A B : List Nat}, A.Pairwise (· < ·) → B.Pairwise (· < ·) → (∀ x, x ∈ A ↔ x ∈ B) → A = B := by
  intro A
  induction A with
  | nil =>
    intro B _ _ h
    cases B with
    | nil => rfl
    | cons b B => exact absurd ((h b).2 (List.mem_cons_self ..)) (by simp)
  | cons a A ih =>
    intro B hA hB h
    cases B with
    | nil => exact absurd ((h a).1 (List.mem_cons_self ..)) (by simp)
    | cons b B =>
      rw [List.pairwise_cons] at hA hB
      have hab : a = b := by
        rcases List.mem_cons.1 ((h a).1 (List.mem_cons_self ..)) with e | e
        · exact e
        · have h1 := hB.1 a e
          rcases List.mem_cons.1 ((h b).2 (List.mem_cons_self ..)) with e2 | e2
          · exact e2.symm
          · have h2 := hA.1 b e2; omega
      subst hab
      congr 1
      refine ih hA.2 hB.2 fun x => ⟨fun hx => ?_, fun hx => ?_⟩
      · rcases List.mem_cons.1 ((h x).1 (List.mem_cons_of_mem _ hx)) with e | e
        · have := hA.1 x hx; omega
        · exact e
      · rcases List.mem_cons.1 ((h x).2 (List.mem_cons_of_mem _ hx)) with e | e
        · have := hB.1 x hx; omega
        · exact e

/-- The address of an allocated object. -/
def IsObj (C : Ca) (a : Nat) : Prop := ∃ (j : Nat) (x : Slb) (i : Nat), C.sl[j]? = some x ∧ x.us[i]? = some true ∧ a = addrS C.size x i

theorem mem_objP {size n a : Nat} {x : Slb} : a ∈ objP size x n ↔ ∃ i, i < n ∧ x.us[i]? = some true ∧ a = addrS size x i := by
  unfold objP
  rw [List.mem_map]
  constructor
  · rintro ⟨i, hi, rfl⟩
    rw [List.mem_filter, List.mem_range] at hi
    refine ⟨i, hi.1, ?_, rfl⟩
    have := hi.2
    rw [List.getD_eq_getElem?_getD] at this
    cases h : x.us[i]? with
    | none => rw [h] at this; cases this
    | some v => rw [h] at this; rw [show v = true from this]
  · rintro ⟨i, h1, h2, rfl⟩
    refine ⟨i, ?_, rfl⟩
    rw [List.mem_filter, List.mem_range]
    exact ⟨h1, by rw [List.getD_eq_getElem?_getD, h2]; rfl⟩
theorem mem_objC {C : Ca} {a : Nat} : a ∈ objC C ↔ IsObj C a := by
  unfold objC IsObj
  rw [List.mem_flatMap]
  constructor
  · rintro ⟨x, hx, ha⟩
    obtain ⟨j, hj⟩ := List.mem_iff_getElem?.1 hx
    obtain ⟨i, _, h2, h3⟩ := mem_objP.1 ha
    exact ⟨j, x, i, hj, h2, h3⟩
  · rintro ⟨j, x, i, h1, h2, h3⟩
    exact ⟨x, List.mem_of_getElem? h1, mem_objP.2 ⟨i, (List.getElem?_eq_some_iff.1 h2).1, h2, h3⟩⟩

theorem slot_in {C : Ca} {N : Nat} {L : List Blk} (h : CaOk C N L) {i : Nat} (hi : i < capa C.size C.order) : i * C.size + C.size ≤ 64 * 2 ^ C.order := by
  have h1 := (capa_pos h).2.2
  have h2 : (i + 1) * C.size ≤ capa C.size C.order * C.size := Nat.mul_le_mul_right _ hi
  rw [Nat.succ_mul] at h2
  omega

theorem slabs_far {C : Ca} {N : Nat} {L : List Blk} (h : CaOk C N L) {x y : Slb} (hx : x ∈ C.sl) (hy : y ∈ C.sl) (hlt : x.pg < y.pg) : x.pg + 2 ^ C.order ≤ y.pg := by
  obtain ⟨a, ha, hae⟩ := List.mem_iff_getElem.1 (h.giv x hx)
  obtain ⟨b, hb, hbe⟩ := List.mem_iff_getElem.1 (h.giv y hy)
  rcases Nat.lt_trichotomy a b with e | e | e
  · have := List.pairwise_iff_getElem.1 h.st.asc a b ha hb e
    rw [hae, hbe] at this
    exact this
  · subst e
    rw [hae] at hbe
    injection hbe with h1
    omega
  · have := List.pairwise_iff_getElem.1 h.st.asc b a hb ha e
    rw [hae, hbe] at this
    have h2 := pow_pos2 C.order
    have h3 : y.pg + 2 ^ C.order ≤ x.pg := this
    omega
theorem slab_same {C : Ca} {N : Nat} {L : List Blk} (h : CaOk C N L) {j k : Nat} {x y : Slb} (hx : C.sl[j]? = some x) (hy : C.sl[k]? = some y) (he : x.pg = y.pg) : j = k := by
  obtain ⟨hj, hje⟩ := List.getElem?_eq_some_iff.1 hx
  obtain ⟨hk, hke⟩ := List.getElem?_eq_some_iff.1 hy
  rcases Nat.lt_trichotomy j k with e | e | e
  · have := List.pairwise_iff_getElem.1 h.asc j k hj hk e
    rw [hje, hke] at this; omega
  · exact e
  · have := List.pairwise_iff_getElem.1 h.asc k j hk hj e
    rw [hje, hke] at this; omega

/-- Two places for objects: the same one, or without a byte in common. -/
theorem slots_far {C : Ca} {N : Nat} {L : List Blk} (h : CaOk C N L) {j k i t : Nat} {x y : Slb} (hx : C.sl[j]? = some x) (hy : C.sl[k]? = some y) (hi : i < x.us.length) (ht : t < y.us.length) :
    (j = k ∧ i = t) ∨ addrS C.size x i + C.size ≤ addrS C.size y t ∨ addrS C.size y t + C.size ≤ addrS C.size x i := by
  have hmx := List.mem_of_getElem? hx
  have hmy := List.mem_of_getElem? hy
  have s1 := slot_in h (i := i) (by rw [← h.len x hmx]; exact hi)
  have s2 := slot_in h (i := t) (by rw [← h.len y hmy]; exact ht)
  unfold addrS
  rcases Nat.lt_trichotomy x.pg y.pg with e | e | e
  · have := slabs_far h hmx hmy e
    right; left
    omega
  · have hjk := slab_same h hx hy e
    rcases Nat.lt_trichotomy i t with f | f | f
    · right; left
      have : (i + 1) * C.size ≤ t * C.size := Nat.mul_le_mul_right _ f
      rw [Nat.succ_mul] at this
      omega
    · exact .inl ⟨hjk, f⟩
    · right; right
      have : (t + 1) * C.size ≤ i * C.size := Nat.mul_le_mul_right _ f
      rw [Nat.succ_mul] at this
      omega
  · have := slabs_far h hmy hmx e
    right; right
    omega
theorem slot_eq {C : Ca} {N : Nat} {L : List Blk} (h : CaOk C N L) {j k i t : Nat} {x y : Slb} (hx : C.sl[j]? = some x) (hy : C.sl[k]? = some y) (hi : i < x.us.length) (ht : t < y.us.length) (he : addrS C.size x i = addrS C.size y t) : j = k ∧ i = t := by
  have h8 := h.sz.1
  rcases slots_far h hx hy hi ht with e | e | e
  · exact e
  · omega
  · omega

theorem asc_objP {size : Nat} (hs : 8 ≤ size) (x : Slb) (n : Nat) : (objP size x n).Pairwise (· < ·) := by
  unfold objP
  rw [List.pairwise_map]
  refine (List.pairwise_lt_range.filter _).imp ?_
  intro a b hab
  unfold addrS
  have : (a + 1) * size ≤ b * size := Nat.mul_le_mul_right _ hab
  rw [Nat.succ_mul] at this
  omega
theorem asc_objC {C : Ca} {N : Nat} {L : List Blk} (h : CaOk C N L) : (objC C).Pairwise (· < ·) := by
  have key : ∀ l : List Slb, l.Pairwise (fun a b => a.pg < b.pg) → (∀ x ∈ l, x ∈ C.sl) → (l.flatMap fun x => objP C.size x x.us.length).Pairwise (· < ·) := by
    intro l
    induction l with
    | nil => intro _ _; exact List.Pairwise.nil
    | cons y l ih =>
      intro hp hm
      rw [List.pairwise_cons] at hp
      rw [List.flatMap_cons, List.pairwise_append]
      refine ⟨asc_objP h.sz.1 _ _, ih hp.2 fun x hx => hm x (List.mem_cons_of_mem _ hx), fun a ha b hb => ?_⟩
      obtain ⟨i, hi, h1, rfl⟩ := mem_objP.1 ha
      rw [List.mem_flatMap] at hb
      obtain ⟨z, hz, hb⟩ := hb
      obtain ⟨t, ht, h2, rfl⟩ := mem_objP.1 hb
      have hym := hm y (List.mem_cons_self ..)
      have hzm := hm z (List.mem_cons_of_mem _ hz)
      have h3 := slabs_far h hym hzm (hp.1 z hz)
      have s1 := slot_in h (i := i) (by rw [← h.len y hym]; exact hi)
      have h8 := h.sz.1
      unfold addrS
      omega
  exact key C.sl h.asc fun x hx => hx

/-- Where an object lies. -/
theorem hold_of {C : Ca} {N : Nat} {L : List Blk} (h : CaOk C N L) {j i : Nat} {x : Slb} (hx : C.sl[j]? = some x) (hi : i < x.us.length) : holdS C.order 0 C.sl ((addrS C.size x i : Nat) : Int) = some (j, i * C.size) := by
  have hm := List.mem_of_getElem? hx
  have s1 := slot_in h (i := i) (by rw [← h.len x hm]; exact hi)
  have h8 := h.sz.1
  have hit : hitS C.order ((addrS C.size x i : Nat) : Int) x := by unfold hitS addrS; omega
  have := holdS_at (order := C.order) (at_ := ((addrS C.size x i : Nat) : Int)) 0 j hx hit fun k y hk hy hh => by
    obtain ⟨hk1, hk2⟩ := List.getElem?_eq_some_iff.1 hy
    obtain ⟨hj1, hj2⟩ := List.getElem?_eq_some_iff.1 hx
    have hlt := List.pairwise_iff_getElem.1 h.asc k j hk1 hj1 hk
    rw [hk2, hj2] at hlt
    have hf := slabs_far h (List.mem_of_getElem? hy) hm hlt
    unfold hitS addrS at hh
    omega
  rw [this]
  congr 2
  · omega
  · unfold addrS; omega
end Sl
end Go.Proofs.Ytlknhbcambdccaa
