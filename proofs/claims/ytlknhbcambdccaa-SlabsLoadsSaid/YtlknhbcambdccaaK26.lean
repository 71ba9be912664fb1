/- Saved states of caches in memory; Save. Slabs, plain: the allocated objects: where they lie, what Alloc and Free do to them. Slabs, plain: what Alloc, Free and Trim do to the allocated objects. SlabsDisjoint: kept, full. -/
import Derived.Test.YtlknhbcambdccaaK25
import Derived.Test.YtlknhbcambdccaaK22
import Derived.Test.YtlknhbcambdccaaK19
import Derived.Test.YtlknhbcambdccaaK21
import Derived.Test.YtlknhbcambdccaaK23
import Derived.Test.YtlknhbcambdccaaK20
import Derived.Test.YtlknhbcambdccaaK14
namespace Go.Proofs.Ytlknhbcambdccaa
open Go.RowKit Go.Shelf
namespace Sl
open Bu

/-- Bools that lie in memory, in blocks from B on. -/
def BoolAt (B : Nat) (w : World) (A : Option Addr) (c : Nat) (us : List Bool) : Prop :=
  us.length ≤ c ∧ c ≤ maxLen ∧ ∀ (i : Nat) (v : Bool), us[i]? = some v → ∃ g o, A = some ⟨g, o, none⟩ ∧ B ≤ g ∧ g < w.heap.size ∧ w.cell? ⟨g, o + i, none⟩ = some (.bool v)
/-- The slabs of a saved state. -/
def SbAt (B : Nat) (w : World) (A : Option Addr) (c : Nat) (l : List (Int × List Bool)) : Prop :=
  l.length ≤ c ∧ c ≤ maxLen ∧ ∀ (j : Nat) (x : Int × List Bool), l[j]? = some x → ∃ g o U cu, A = some ⟨g, o, none⟩ ∧ B ≤ g ∧ g < w.heap.size ∧ w.cell? ⟨g, o + j * 2, none⟩ = some (.int .i64 x.1) ∧ w.cell? ⟨g, o + j * 2 + 1, none⟩ = some (.slice U x.2.length cu) ∧ BoolAt B w U cu x.2
theorem BoolAt.keep {B : Nat} {w w' : World} {A : Option Addr} {c : Nat} {us : List Bool} (h : BoolAt B w A c us) (hs : w.heap.size ≤ w'.heap.size) (hk : ∀ z, B ≤ z → z < w.heap.size → w'.heap[z]? = w.heap[z]?) : BoolAt B w' A c us :=
  ⟨h.1, h.2.1, fun i v hv => by
    obtain ⟨g, o, h1, h2, h3, h4⟩ := h.2.2 i v hv
    exact ⟨g, o, h1, h2, by omega, (World.cell?_of_block (a := ⟨g, o + i, none⟩) (hk g h2 h3)).trans h4⟩⟩
theorem SbAt.keep {B : Nat} {w w' : World} {A : Option Addr} {c : Nat} {l : List (Int × List Bool)} (h : SbAt B w A c l) (hs : w.heap.size ≤ w'.heap.size) (hk : ∀ z, B ≤ z → z < w.heap.size → w'.heap[z]? = w.heap[z]?) : SbAt B w' A c l :=
  ⟨h.1, h.2.1, fun j x hx => by
    obtain ⟨g, o, U, cu, h1, h2, h3, h4, h5, h6⟩ := h.2.2 j x hx
    exact ⟨g, o, U, cu, h1, h2, by omega, (World.cell?_of_block (a := ⟨g, _, none⟩) (hk g h2 h3)).trans h4, (World.cell?_of_block (a := ⟨g, _, none⟩) (hk g h2 h3)).trans h5, h6.keep hs hk⟩⟩
theorem SbAt.below {B : Nat} {w w' : World} {A : Option Addr} {c : Nat} {l : List (Int × List Bool)} (h : SbAt B w A c l) (hb : Below w.heap.size w w') : SbAt B w' A c l := h.keep hb.size fun z _ hz => hb.block z hz
theorem bool_row {B : Nat} {w : World} {A : Option Addr} {c : Nat} {us : List Bool} (h : w.ownsRow B 4 1 (.slice A us.length c) us.length (bcells us)) : BoolAt B w A c us := by
  rcases h.2 with ⟨hv, h0⟩ | ⟨g, cp, cur, hv, hB, hg, h1, h2, _⟩
  · injection hv with e1 e2 e3
    refine ⟨by omega, by unfold maxLen; omega, fun j x hx => ?_⟩
    have := (List.getElem?_eq_some_iff.1 hx).1; omega
  · injection hv with e1 e2 e3
    subst e1; subst e3
    exact ⟨h1, h2, fun j x hx => ⟨g, 0, rfl, hB, lt_of_heap hg, by rw [Nat.zero_add]; exact row_at h (by rw [bcells_get, hx]; rfl)⟩⟩

/-- The slabs of a cache, as Save gives them. -/
def saveS (l : List Slb) : List (Int × List Bool) := l.map fun x => ((x.pg : Int), x.us)
theorem saveS_len (l : List Slb) : (saveS l).length = l.length := List.length_map _

theorem slblock_info : (Try.prog.info? 90).map (fun i => (i.zero.isSome, i.zero.map (fun z => z.cells.size), i.size, i.bytes)) = some (true, some 2, 2, 32) := by kernel_rfl

theorem bool_size (w : World) : (Go.sizeOf 4).run Try.prog w = .ok 1 w := by kernel_rfl

set_option maxRecDepth 100000 in
theorem clone_ok (w : World) (A : Option Addr) (c : Nat) (us : List Bool) (hp : 0 < us.length) (h : BoolAt 0 w A c us) (hl : us.length ≤ 1000000) :
    Calls Try.prog 60 #[.slice A us.length c] w fun e w' => ∃ A' c', e = .returned (.slice A' us.length c') ∧ w'.ownsRow w.heap.size 4 1 (.slice A' us.length c') us.length (bcells us) ∧ Below w.heap.size w w' := by
  obtain ⟨i0, hi, h0, h1, h2⟩ := info_parts bool_info
  obtain ⟨v, hv⟩ : ∃ v, us[0]? = some v := ⟨_, List.getElem?_eq_getElem hp⟩
  obtain ⟨b, o, rfl, _⟩ := h.2.2 0 v hv
  have hbl : (bcells us).length = us.length * 1 := by rw [bcells_len, Nat.mul_one]
  refine (AnyE.slices_Clone Try.cloneB i0 (.bool false) 1 1 hi h0 h1 h2 rfl (by decide) bool_size b o us.length c (bcells us) w hbl (by unfold maxLen; omega) (by omega) ?_ ?_).mono ?_
  · intro j u hu
    rw [bcells_get] at hu
    obtain ⟨v, hv, rfl⟩ := Option.map_eq_some_iff.1 hu
    obtain ⟨g', o', hA, _, _, hc⟩ := h.2.2 j v hv
    injection hA with hA; injection hA with e1 e2
    subst e1; subst e2
    exact hc
  · intro u hu
    obtain ⟨v, _, rfl⟩ := List.mem_map.1 hu
    rfl
  · rintro e w' ⟨v', rfl, hr, _, hb⟩
    obtain ⟨A', c', rfl⟩ := own_row hr
    exact ⟨A', c', rfl, hr, hb⟩
end Sl
end Go.Proofs.Ytlknhbcambdccaa
namespace Go.Proofs.Ytlknhbcambdccaa
open Go.RowKit
namespace Sl
open Bu

theorem nat_asc_eq : ∀ {A B : List Nat}, A.Pairwise (· < ·) → B.Pairwise (· < ·) → (∀ x, x ∈ A ↔ x ∈ B) → A = B := by
  intro A
  induction A with
  | nil =>
    intro B _ _ h
    cases B with
    | nil => rfl
    | cons b B => exact absurd ((h b).2 (List.mem_cons_self ..)) (by simp)
  | cons a A ih =>
    intro B hA hB h
    cases B with
    | nil => exact absurd ((h a).1 (List.mem_cons_self ..)) (by simp)
    | cons b B =>
      rw [List.pairwise_cons] at hA hB
      have hab : a = b := by
        rcases List.mem_cons.1 ((h a).1 (List.mem_cons_self ..)) with e | e
        · exact e
        · have h1 := hB.1 a e
          rcases List.mem_cons.1 ((h b).2 (List.mem_cons_self ..)) with e2 | e2
          · exact e2.symm
          · have h2 := hA.1 b e2; omega
      subst hab
      congr 1
      refine ih hA.2 hB.2 fun x => ⟨fun hx => ?_, fun hx => ?_⟩
      · rcases List.mem_cons.1 ((h x).1 (List.mem_cons_of_mem _ hx)) with e | e
        · have := hA.1 x hx; omega
        · exact e
      · rcases List.mem_cons.1 ((h x).2 (List.mem_cons_of_mem _ hx)) with e | e
        · have := hB.1 x hx; omega
        · exact e

/-- The address of an allocated object. -/
def IsObj (C : Ca) (a : Nat) : Prop := ∃ (j : Nat) (x : Slb) (i : Nat), C.sl[j]? = some x ∧ x.us[i]? = some true ∧ a = addrS C.size x i

theorem mem_objP {size n a : Nat} {x : Slb} : a ∈ objP size x n ↔ ∃ i, i < n ∧ x.us[i]? = some true ∧ a = addrS size x i := by
  unfold objP
  rw [List.mem_map]
  constructor
  · rintro ⟨i, hi, rfl⟩
    rw [List.mem_filter, List.mem_range] at hi
    refine ⟨i, hi.1, ?_, rfl⟩
    have := hi.2
    rw [List.getD_eq_getElem?_getD] at this
    cases h : x.us[i]? with
    | none => rw [h] at this; cases this
    | some v => rw [h] at this; rw [show v = true from this]
  · rintro ⟨i, h1, h2, rfl⟩
    refine ⟨i, ?_, rfl⟩
    rw [List.mem_filter, List.mem_range]
    exact ⟨h1, by rw [List.getD_eq_getElem?_getD, h2]; rfl⟩
theorem mem_objC {C : Ca} {a : Nat} : a ∈ objC C ↔ IsObj C a := by
  unfold objC IsObj
  rw [List.mem_flatMap]
  constructor
  · rintro ⟨x, hx, ha⟩
    obtain ⟨j, hj⟩ := List.mem_iff_getElem?.1 hx
    obtain ⟨i, _, h2, h3⟩ := mem_objP.1 ha
    exact ⟨j, x, i, hj, h2, h3⟩
  · rintro ⟨j, x, i, h1, h2, h3⟩
    exact ⟨x, List.mem_of_getElem? h1, mem_objP.2 ⟨i, (List.getElem?_eq_some_iff.1 h2).1, h2, h3⟩⟩

theorem slot_in {C : Ca} {N : Nat} {L : List Blk} (h : CaOk C N L) {i : Nat} (hi : i < capa C.size C.order) : i * C.size + C.size ≤ 64 * 2 ^ C.order := by
  have h1 := (capa_pos h).2.2
  have h2 : (i + 1) * C.size ≤ capa C.size C.order * C.size := Nat.mul_le_mul_right _ hi
  rw [Nat.succ_mul] at h2
  omega

theorem slabs_far {C : Ca} {N : Nat} {L : List Blk} (h : CaOk C N L) {x y : Slb} (hx : x ∈ C.sl) (hy : y ∈ C.sl) (hlt : x.pg < y.pg) : x.pg + 2 ^ C.order ≤ y.pg := by
  obtain ⟨a, ha, hae⟩ := List.mem_iff_getElem.1 (h.giv x hx)
  obtain ⟨b, hb, hbe⟩ := List.mem_iff_getElem.1 (h.giv y hy)
  rcases Nat.lt_trichotomy a b with e | e | e
  · have := List.pairwise_iff_getElem.1 h.st.asc a b ha hb e
    rw [hae, hbe] at this
    exact this
  · subst e
    rw [hae] at hbe
    injection hbe with h1
    omega
  · have := List.pairwise_iff_getElem.1 h.st.asc b a hb ha e
    rw [hae, hbe] at this
    have h2 := pow_pos2 C.order
    have h3 : y.pg + 2 ^ C.order ≤ x.pg := this
    omega
theorem slab_same {C : Ca} {N : Nat} {L : List Blk} (h : CaOk C N L) {j k : Nat} {x y : Slb} (hx : C.sl[j]? = some x) (hy : C.sl[k]? = some y) (he : x.pg = y.pg) : j = k := by
  obtain ⟨hj, hje⟩ := List.getElem?_eq_some_iff.1 hx
  obtain ⟨hk, hke⟩ := List.getElem?_eq_some_iff.1 hy
  rcases Nat.lt_trichotomy j k with e | e | e
  · have := List.pairwise_iff_getElem.1 h.asc j k hj hk e
    rw [hje, hke] at this; omega
  · exact e
  · have := List.pairwise_iff_getElem.1 h.asc k j hk hj e
    rw [hje, hke] at this; omega

/-- Two places for objects: the same one, or without a byte in common. -/
theorem slots_far {C : Ca} {N : Nat} {L : List Blk} (h : CaOk C N L) {j k i t : Nat} {x y : Slb} (hx : C.sl[j]? = some x) (hy : C.sl[k]? = some y) (hi : i < x.us.length) (ht : t < y.us.length) :
    (j = k ∧ i = t) ∨ addrS C.size x i + C.size ≤ addrS C.size y t ∨ addrS C.size y t + C.size ≤ addrS C.size x i := by
  have hmx := List.mem_of_getElem? hx
  have hmy := List.mem_of_getElem? hy
  have s1 := slot_in h (i := i) (by rw [← h.len x hmx]; exact hi)
  have s2 := slot_in h (i := t) (by rw [← h.len y hmy]; exact ht)
  unfold addrS
  rcases Nat.lt_trichotomy x.pg y.pg with e | e | e
  · have := slabs_far h hmx hmy e
    right; left
    omega
  · have hjk := slab_same h hx hy e
    rcases Nat.lt_trichotomy i t with f | f | f
    · right; left
      have : (i + 1) * C.size ≤ t * C.size := Nat.mul_le_mul_right _ f
      rw [Nat.succ_mul] at this
      omega
    · exact .inl ⟨hjk, f⟩
    · right; right
      have : (t + 1) * C.size ≤ i * C.size := Nat.mul_le_mul_right _ f
      rw [Nat.succ_mul] at this
      omega
  · have := slabs_far h hmy hmx e
    right; right
    omega
theorem slot_eq {C : Ca} {N : Nat} {L : List Blk} (h : CaOk C N L) {j k i t : Nat} {x y : Slb} (hx : C.sl[j]? = some x) (hy : C.sl[k]? = some y) (hi : i < x.us.length) (ht : t < y.us.length) (he : addrS C.size x i = addrS C.size y t) : j = k ∧ i = t := by
  have h8 := h.sz.1
  rcases slots_far h hx hy hi ht with e | e | e
  · exact e
  · omega
  · omega

theorem asc_objP {size : Nat} (hs : 8 ≤ size) (x : Slb) (n : Nat) : (objP size x n).Pairwise (· < ·) := by
  unfold objP
  rw [List.pairwise_map]
  refine (List.pairwise_lt_range.filter _).imp ?_
  intro a b hab
  unfold addrS
  have : (a + 1) * size ≤ b * size := Nat.mul_le_mul_right _ hab
  rw [Nat.succ_mul] at this
  omega
theorem asc_objC {C : Ca} {N : Nat} {L : List Blk} (h : CaOk C N L) : (objC C).Pairwise (· < ·) := by
  have key : ∀ l : List Slb, l.Pairwise (fun a b => a.pg < b.pg) → (∀ x ∈ l, x ∈ C.sl) → (l.flatMap fun x => objP C.size x x.us.length).Pairwise (· < ·) := by
    intro l
    induction l with
    | nil => intro _ _; exact List.Pairwise.nil
    | cons y l ih =>
      intro hp hm
      rw [List.pairwise_cons] at hp
      rw [List.flatMap_cons, List.pairwise_append]
      refine ⟨asc_objP h.sz.1 _ _, ih hp.2 fun x hx => hm x (List.mem_cons_of_mem _ hx), fun a ha b hb => ?_⟩
      obtain ⟨i, hi, h1, rfl⟩ := mem_objP.1 ha
      rw [List.mem_flatMap] at hb
      obtain ⟨z, hz, hb⟩ := hb
      obtain ⟨t, ht, h2, rfl⟩ := mem_objP.1 hb
      have hym := hm y (List.mem_cons_self ..)
      have hzm := hm z (List.mem_cons_of_mem _ hz)
      have h3 := slabs_far h hym hzm (hp.1 z hz)
      have s1 := slot_in h (i := i) (by rw [← h.len y hym]; exact hi)
      have h8 := h.sz.1
      unfold addrS
      omega
  exact key C.sl h.asc fun x hx => hx

/-- Where an object lies. -/
theorem hold_of {C : Ca} {N : Nat} {L : List Blk} (h : CaOk C N L) {j i : Nat} {x : Slb} (hx : C.sl[j]? = some x) (hi : i < x.us.length) : holdS C.order 0 C.sl ((addrS C.size x i : Nat) : Int) = some (j, i * C.size) := by
  have hm := List.mem_of_getElem? hx
  have s1 := slot_in h (i := i) (by rw [← h.len x hm]; exact hi)
  have h8 := h.sz.1
  have hit : hitS C.order ((addrS C.size x i : Nat) : Int) x := by unfold hitS addrS; omega
  have := holdS_at (order := C.order) (at_ := ((addrS C.size x i : Nat) : Int)) 0 j hx hit fun k y hk hy hh => by
    obtain ⟨hk1, hk2⟩ := List.getElem?_eq_some_iff.1 hy
    obtain ⟨hj1, hj2⟩ := List.getElem?_eq_some_iff.1 hx
    have hlt := List.pairwise_iff_getElem.1 h.asc k j hk1 hj1 hk
    rw [hk2, hj2] at hlt
    have hf := slabs_far h (List.mem_of_getElem? hy) hm hlt
    unfold hitS addrS at hh
    omega
  rw [this]
  congr 2
  · omega
  · unfold addrS; omega
end Sl
end Go.Proofs.Ytlknhbcambdccaa
namespace Go.Proofs.Ytlknhbcambdccaa
open Go.RowKit
namespace Sl
open Bu

theorem isObj_mem {C : Ca} {a : Nat} : IsObj C a ↔ ∃ x ∈ C.sl, ∃ i, x.us[i]? = some true ∧ a = addrS C.size x i := by
  constructor
  · rintro ⟨j, x, i, h1, h2, h3⟩
    exact ⟨x, List.mem_of_getElem? h1, i, h2, h3⟩
  · rintro ⟨x, hx, i, h2, h3⟩
    obtain ⟨j, hj⟩ := List.mem_iff_getElem?.1 hx
    exact ⟨j, x, i, hj, h2, h3⟩

theorem obj_far {C : Ca} {N : Nat} {L : List Blk} (h : CaOk C N L) {a b : Nat} (ha : IsObj C a) (hb : IsObj C b) (hne : a ≠ b) : a + C.size ≤ b ∨ b + C.size ≤ a := by
  obtain ⟨j, x, i, h1, h2, rfl⟩ := ha
  obtain ⟨k, y, t, h3, h4, rfl⟩ := hb
  rcases slots_far h h1 h3 (List.getElem?_eq_some_iff.1 h2).1 (List.getElem?_eq_some_iff.1 h4).1 with ⟨e1, e2⟩ | e | e
  · subst e1; subst e2
    rw [h1] at h3
    injection h3 with h3
    subst h3
    exact absurd rfl hne
  · exact .inl e
  · exact .inr e
theorem obj_in {C : Ca} {N : Nat} {L : List Blk} (h : CaOk C N L) {a : Nat} (ha : IsObj C a) : a % 8 = 0 ∧ a < 66000 ∧ ∃ x ∈ C.sl, 64 * x.pg ≤ a ∧ a + C.size ≤ 64 * x.pg + 64 * 2 ^ C.order := by
  obtain ⟨x, hx, i, h2, rfl⟩ := isObj_mem.1 ha
  have s1 := slot_in h (i := i) (by rw [← h.len x hx]; exact (List.getElem?_eq_some_iff.1 h2).1)
  have hp : x.pg + 2 ^ C.order ≤ 1024 := (st_le h.st _ (h.giv x hx)).2
  have h8 := h.sz
  refine ⟨?_, ?_, x, hx, ?_, ?_⟩
  · unfold addrS
    obtain ⟨q, hq⟩ : ∃ q, C.size = 8 * q := ⟨C.size / 8, by omega⟩
    rw [hq, show i * (8 * q) = 8 * (i * q) by rw [← Nat.mul_assoc, Nat.mul_comm i 8, Nat.mul_assoc]]
    omega
  · unfold addrS; omega
  · unfold addrS; omega
  · unfold addrS; omega

theorem obj_set {C : Ca} {N : Nat} {L : List Blk} (h : CaOk C N L) {j i : Nat} {x : Slb} (hx : C.sl[j]? = some x) (hi : i < x.us.length) (v : Bool) (z : Nat) :
    IsObj { C with sl := setS C.sl j i v } z ↔ (v = true ∧ z = addrS C.size x i) ∨ (IsObj C z ∧ z ≠ addrS C.size x i) := by
  have hset := setS_eq (i := i) (v := v) hx
  have hj := (List.getElem?_eq_some_iff.1 hx).1
  constructor
  · rintro ⟨k, y, t, h1, h2, h3⟩
    have h1 : (setS C.sl j i v)[k]? = some y := h1
    rw [hset] at h1
    by_cases e : j = k
    · subst e
      rw [List.getElem?_set_self hj] at h1
      injection h1 with h1
      subst h1
      have h2 : (x.us.set i v)[t]? = some true := h2
      by_cases f : i = t
      · subst f
        rw [List.getElem?_set_self hi] at h2
        injection h2 with h2
        exact .inl ⟨h2, h3⟩
      · rw [List.getElem?_set_ne f] at h2
        have ht := (List.getElem?_eq_some_iff.1 h2).1
        refine .inr ⟨⟨j, x, t, hx, h2, h3⟩, fun he => f ?_⟩
        have h3 : z = addrS C.size x t := h3
        exact (slot_eq h hx hx hi ht (by rw [← he, h3])).2
    · rw [List.getElem?_set_ne e] at h1
      have ht := (List.getElem?_eq_some_iff.1 h2).1
      refine .inr ⟨⟨k, y, t, h1, h2, h3⟩, fun he => e ?_⟩
      have h3 : z = addrS C.size y t := h3
      exact (slot_eq h hx h1 hi ht (by rw [← he, h3])).1
  · have hself : (setS C.sl j i v)[j]? = some ⟨x.pg, x.us.set i v⟩ := by rw [hset, List.getElem?_set_self hj]
    rintro (⟨rfl, rfl⟩ | ⟨⟨k, y, t, h1, h2, h3⟩, hne⟩)
    · exact ⟨j, _, i, hself, List.getElem?_set_self hi, rfl⟩
    · by_cases e : j = k
      · subst e
        rw [hx] at h1
        injection h1 with h1
        subst h1
        have f : i ≠ t := fun f => hne (by rw [h3, f])
        exact ⟨j, _, t, hself, by show (x.us.set i v)[t]? = _; rw [List.getElem?_set_ne f]; exact h2, h3⟩
      · exact ⟨k, y, t, by show (setS C.sl j i v)[k]? = _; rw [hset, List.getElem?_set_ne e]; exact h1, h2, h3⟩

theorem none_many {x : Slb} (h : x.many = 0) (i : Nat) : x.us[i]? ≠ some true := fun he => by
  have : 1 ≤ x.us.count true := List.count_pos_iff.2 (List.mem_of_getElem? he)
  unfold Slb.many at h
  omega
theorem obj_erase {C : Ca} {k : Nat} {y : Slb} (hy : C.sl[k]? = some y) (hz : y.many = 0) (z : Nat) : IsObj { C with sl := C.sl.eraseIdx k } z ↔ IsObj C z := by
  rw [isObj_mem, isObj_mem]
  constructor
  · rintro ⟨x, hx, r⟩
    exact ⟨x, List.mem_of_mem_eraseIdx hx, r⟩
  · rintro ⟨x, hx, i, h1, h2⟩
    obtain ⟨j, hj⟩ := List.mem_iff_getElem?.1 hx
    have hjk : j ≠ k := fun e => by
      subst e
      rw [hy] at hj
      injection hj with hj
      subst hj
      exact none_many hz i h1
    exact ⟨x, List.mem_eraseIdx_iff_getElem?.2 ⟨j, hjk, hj⟩, i, h1, h2⟩

/-- The allocator has given the cache's slabs, and nothing else. -/
def Exact (C : Ca) (L : List Blk) : Prop := ∀ z ∈ L, ∃ x ∈ C.sl, z = (x.pg, C.order)

theorem exact_set {C : Ca} {L : List Blk} {j i : Nat} {x : Slb} {v : Bool} (h : Exact C L) (hx : C.sl[j]? = some x) : Exact { C with sl := setS C.sl j i v } L := by
  intro z hz
  obtain ⟨y, hy, rfl⟩ := h z hz
  obtain ⟨k, hk⟩ := List.mem_iff_getElem?.1 hy
  have hset := setS_eq (i := i) (v := v) hx
  have hj := (List.getElem?_eq_some_iff.1 hx).1
  by_cases e : j = k
  · subst e
    rw [hx] at hk
    injection hk with hk
    subst hk
    exact ⟨⟨x.pg, x.us.set i v⟩, List.mem_of_getElem? (i := j) (by show (setS C.sl j i v)[j]? = _; rw [hset, List.getElem?_set_self hj]), rfl⟩
  · exact ⟨y, List.mem_of_getElem? (i := k) (by show (setS C.sl j i v)[k]? = _; rw [hset, List.getElem?_set_ne e]; exact hk), rfl⟩
theorem exact_del {C : Ca} {L : List Blk} {k : Nat} {y : Slb} (h : Exact C L) (hy : C.sl[k]? = some y) : Exact { C with sl := C.sl.eraseIdx k } (delB L (y.pg, C.order)) := by
  intro z hz
  obtain ⟨h1, h2⟩ := mem_delB.1 hz
  obtain ⟨x, hx, rfl⟩ := h z h1
  obtain ⟨j, hj⟩ := List.mem_iff_getElem?.1 hx
  have hjk : j ≠ k := fun e => by
    subst e
    rw [hy] at hj
    injection hj with hj
    subst hj
    exact h2 rfl
  exact ⟨x, List.mem_eraseIdx_iff_getElem?.2 ⟨j, hjk, hj⟩, rfl⟩

/-- Free of an allocated object. -/
theorem free_obj {C : Ca} {N : Nat} {L : List Blk} (h : CaOk C N L) {a : Nat} (ha : IsObj C a) :
    ∃ sl L', freeC C L (a : Int) = (0, sl, L') ∧ (∀ z, IsObj { C with sl := sl } z ↔ IsObj C z ∧ z ≠ a) ∧ (Exact C L → Exact { C with sl := sl } L') := by
  obtain ⟨j, x, i, hx, hv, rfl⟩ := ha
  have hi := (List.getElem?_eq_some_iff.1 hv).1
  have hh := hold_of h hx hi
  have hd : i * C.size / C.size = i := Nat.mul_div_cancel _ (by have := h.sz.1; omega)
  have hf := freeC_hit (L := L) hh hx
  rw [hd, if_neg (by rw [Nat.mul_mod_left]; omega), if_neg (fun hn => hn hv)] at hf
  have hso := obj_set h hx hi false
  by_cases he : emptyS (setS C.sl j i false) ≤ C.keep
  · rw [if_pos he] at hf
    refine ⟨_, _, hf, fun z => ?_, fun hE => exact_set hE hx⟩
    rw [hso z]
    simp
  · rw [if_neg he] at hf
    cases hk : lastE (setS C.sl j i false) with
    | none =>
      rw [hk] at hf
      refine ⟨_, _, hf, fun z => ?_, fun hE => exact_set hE hx⟩
      rw [hso z]
      simp
    | some k =>
      rw [hk] at hf
      obtain ⟨y, hy, hz⟩ := lastE_some hk
      simp only [hy] at hf
      refine ⟨_, _, hf, fun z => ?_, fun hE => exact_del (C := { C with sl := setS C.sl j i false }) (exact_set hE hx) hy⟩
      rw [obj_erase (C := { C with sl := setS C.sl j i false }) hy hz z, hso z]
      simp

/-- Alloc where there is room. -/
theorem alloc_obj {C : Ca} {N : Nat} {L : List Blk} (h : CaOk C N L) {a : Nat} {sl : List Slb} {L' : List Blk} (ha : allocC C N L = some (a, sl, L')) :
    (∀ z, IsObj { C with sl := sl } z ↔ z = a ∨ IsObj C z) ∧ ¬ IsObj C a ∧ (Exact C L → Exact { C with sl := sl } L') := by
  unfold allocC at ha
  cases hp : pickS 0 none C.sl with
  | some jm =>
    obtain ⟨j, m⟩ := jm
    obtain ⟨x, hx, hxm, hml, _⟩ := pickS_some (l := C.sl) (k := C.sl.length) (Nat.le_refl _) (by rw [List.take_length]; exact hp)
    rw [hp] at ha
    simp only [hx] at ha
    injection ha with ha
    injection ha with h1 h2
    injection h2 with h2 h3
    subst h1; subst h2; subst h3
    obtain ⟨hfi, hfv⟩ := freeI_lt (x := x) (by omega)
    have hno : ¬ IsObj C (addrS C.size x (freeI x.us)) := by
      rintro ⟨k, y, t, g1, g2, g3⟩
      obtain ⟨e1, e2⟩ := slot_eq h hx g1 hfi (List.getElem?_eq_some_iff.1 g2).1 g3
      subst e1
      rw [hx] at g1
      injection g1 with g1
      subst g1
      rw [← e2, hfv] at g2
      cases g2
    refine ⟨fun z => ?_, hno, fun hE => exact_set hE hx⟩
    rw [obj_set h hx hfi true z]
    constructor
    · rintro (⟨_, e⟩ | ⟨e, _⟩)
      · exact .inl e
      · exact .inr e
    · rintro (e | e)
      · exact .inl ⟨rfl, e⟩
      · exact .inr ⟨e, fun e2 => hno (e2 ▸ e)⟩
  | none =>
    rw [hp] at ha
    cases hb : allocB N L C.order with
    | none => simp only [hb] at ha; cases ha
    | some pl =>
      obtain ⟨p, L2⟩ := pl
      simp only [hb] at ha
      injection ha with ha
      injection ha with h1 h2
      injection h2 with h2 h3
      subst h1; subst h2; subst h3
      have hcp := (capa_pos h).1
      have hfresh := fresh_page h hb
      have hput := put_is hb
      have hus : ∀ i, (true :: List.replicate (capa C.size C.order - 1) false)[i]? = some true ↔ i = 0 := by
        intro i
        cases i with
        | zero => simp
        | succ i =>
          rw [List.getElem?_cons_succ, List.getElem?_replicate]
          split <;> simp
      have hok := ok_ins (us := true :: List.replicate (capa C.size C.order - 1) false) h hb (by rw [List.length_cons, List.length_replicate]; omega) (by simp)
      have hadr : addrS C.size ⟨p, true :: List.replicate (capa C.size C.order - 1) false⟩ 0 = 64 * p := by unfold addrS; simp
      refine ⟨fun z => ?_, fun hn => ?_, fun hE z hz => ?_⟩
      · rw [isObj_mem, isObj_mem]
        constructor
        · rintro ⟨x, hx, i, g1, g2⟩
          rcases mem_insS.1 hx with e | e
          · subst e
            have := (hus i).1 g1
            subst this
            exact .inl (g2.trans hadr)
          · exact .inr ⟨x, e, i, g1, g2⟩
        · rintro (e | ⟨x, hx, i, g1, g2⟩)
          · exact ⟨_, mem_insS.2 (.inl rfl), 0, (hus 0).2 rfl, e.trans hadr.symm⟩
          · exact ⟨x, mem_insS.2 (.inr hx), i, g1, g2⟩
      · obtain ⟨x, hx, i, g1, g2⟩ := isObj_mem.1 hn
        have hne := hfresh x hx
        obtain ⟨k, hk⟩ := List.mem_iff_getElem?.1 (show x ∈ insS C.sl ⟨p, true :: List.replicate (capa C.size C.order - 1) false⟩ from mem_insS.2 (.inr hx))
        obtain ⟨k2, hk2⟩ := List.mem_iff_getElem?.1 (show (⟨p, true :: List.replicate (capa C.size C.order - 1) false⟩ : Slb) ∈ insS C.sl ⟨p, true :: List.replicate (capa C.size C.order - 1) false⟩ from mem_insS.2 (.inl rfl))
        have := (slot_eq hok hk2 hk (i := 0) (by simp) (List.getElem?_eq_some_iff.1 g1).1 (hadr.trans g2)).1
        subst this
        rw [hk2] at hk
        injection hk with hk
        subst hk
        exact hne rfl
      · rw [hput] at hz
        rcases mem_putB.1 hz with e | e
        · exact ⟨_, mem_insS.2 (.inl rfl), e⟩
        · obtain ⟨x, hx, he⟩ := hE z e
          exact ⟨x, mem_insS.2 (.inr hx), he⟩

/-- Alloc where there is none. -/
theorem alloc_noroom {C : Ca} {N : Nat} {L : List Blk} (h : CaOk C N L) (ha : allocC C N L = none) : (∀ x ∈ C.sl, x.many = capa C.size C.order) ∧ roomB C.order (blocksB N L) = 0 := by
  unfold allocC at ha
  cases hp : pickS 0 none C.sl with
  | some jm =>
    obtain ⟨j, m⟩ := jm
    obtain ⟨x, hx, _⟩ := pickS_some (l := C.sl) (k := C.sl.length) (Nat.le_refl _) (by rw [List.take_length]; exact hp)
    rw [hp] at ha
    simp only [hx] at ha
    cases ha
  | none =>
    refine ⟨fun x hx => ?_, ?_⟩
    · obtain ⟨i, hi⟩ := List.mem_iff_getElem?.1 hx
      have h1 := pickS_none (l := C.sl) (k := C.sl.length) (Nat.le_refl _) (by rw [List.take_length]; exact hp) i x (List.getElem?_eq_some_iff.1 hi).1 hi
      have h2 := many_le x
      rw [h.len x hx] at h1 h2
      omega
    · rw [hp] at ha
      have hb : allocB N L C.order = none := by
        cases hb : allocB N L C.order with
        | none => rfl
        | some pl => obtain ⟨p, L2⟩ := pl; simp only [hb] at ha; cases ha
      have := room_step h.st C.order
      rw [hb] at this
      exact this

/-- Trim where nothing is allocated. -/
theorem trim_all {C : Ca} {L : List Blk} (h : ∀ a, ¬ IsObj C a) (hE : Exact C L) : (trimC C).sl = [] ∧ trimL C L = [] := by
  have hz : ∀ x ∈ C.sl, x.many = 0 := fun x hx => by
    refine Classical.byContradiction fun hn => ?_
    have hp : 0 < x.us.count true := Nat.pos_of_ne_zero hn
    obtain ⟨i, hi⟩ := List.mem_iff_getElem?.1 (List.count_pos_iff.1 hp)
    exact h _ (isObj_mem.2 ⟨x, hx, i, hi, rfl⟩)
  refine ⟨?_, ?_⟩
  · show C.sl.filter full0 = []
    rw [List.filter_eq_nil_iff]
    intro x hx
    unfold full0
    simp [hz x hx]
  · unfold trimL delK
    rw [List.filter_eq_self.2 fun x hx => by simp [hz x hx]]
    have key : ∀ (l : List Slb) (M : List Blk) (z : Blk), z ∈ l.foldr (fun x M => delB M (x.pg, C.order)) M → z ∈ M ∧ ∀ x ∈ l, z ≠ (x.pg, C.order) := by
      intro l
      induction l with
      | nil => intro M z hz; exact ⟨hz, fun x hx => by cases hx⟩
      | cons y l ih =>
        intro M z hz
        rw [List.foldr_cons] at hz
        obtain ⟨h1, h2⟩ := mem_delB.1 hz
        obtain ⟨h3, h4⟩ := ih M z h1
        refine ⟨h3, fun x hx => ?_⟩
        rcases List.mem_cons.1 hx with e | e
        · subst e; exact h2
        · exact h4 x e
    refine List.eq_nil_iff_forall_not_mem.2 fun z hz => ?_
    obtain ⟨h1, h2⟩ := key _ _ _ hz
    obtain ⟨x, hx, he⟩ := hE z h1
    exact h2 x hx he
end Sl
end Go.Proofs.Ytlknhbcambdccaa
namespace Go.Proofs.Ytlknhbcambdccaa
open Go.RowKit
namespace Sl
open Bu

theorem viewS_len (l : List Slb) : (viewS l).length = l.length * 2 := by
  induction l with
  | nil => rfl
  | cons x l ih => rw [show viewS (x :: l) = [.int .i64 (x.pg : Int), .int .i64 (x.many : Int)] ++ viewS l from rfl, List.length_append, ih]; simp; omega
theorem viewS_get : ∀ {l : List Slb} {j : Nat} {x : Slb}, l[j]? = some x → (viewS l)[j * 2]? = some (.int .i64 (x.pg : Int)) ∧ (viewS l)[j * 2 + 1]? = some (.int .i64 (x.many : Int)) := by
  intro l
  induction l with
  | nil => intro j x h; simp at h
  | cons y l ih =>
    intro j x h
    rw [show viewS (y :: l) = .int .i64 (y.pg : Int) :: .int .i64 (y.many : Int) :: viewS l from rfl]
    cases j with
    | zero => simp at h; subst h; exact ⟨rfl, rfl⟩
    | succ j =>
      obtain ⟨h1, h2⟩ := ih (j := j) (x := x) (by simpa using h)
      rw [show (j + 1) * 2 = j * 2 + 1 + 1 by omega, show j * 2 + 1 + 1 + 1 = (j * 2 + 1) + 1 + 1 by omega]
      exact ⟨by simpa using h1, by simpa using h2⟩

/-- What Slabs returned. -/
def ViewAt (W : World) (A : Option Addr) (cp : Nat) (l : List Slb) : Prop :=
  l.length ≤ cp ∧ cp ≤ maxLen ∧ ∀ (j : Nat) (x : Slb), l[j]? = some x → ∃ g, A = some ⟨g, 0, none⟩ ∧ W.cell? ⟨g, j * 2, none⟩ = some (.int .i64 (x.pg : Int)) ∧ W.cell? ⟨g, j * 2 + 1, none⟩ = some (.int .i64 (x.many : Int))
theorem view_of {W : World} {B cp : Nat} {A : Option Addr} {l : List Slb} (h : W.ownsRow B 39 2 (.slice A l.length cp) l.length (viewS l)) : ViewAt W A cp l := by
  by_cases hl : 1 ≤ l.length
  · obtain ⟨g, rfl⟩ := row_some h hl
    obtain ⟨h1, h2, _⟩ := row_capsA h
    exact ⟨h1, h2, fun j x hx => ⟨g, rfl, row_at h (viewS_get hx).1, row_at h (viewS_get hx).2⟩⟩
  · have h0 : l = [] := List.length_eq_zero_iff.1 (by omega)
    subst h0
    rcases h.2 with ⟨hv, _⟩ | ⟨g, cap, cur, hv, _, _, h1, h2, _⟩
    · injection hv with _ _ e
      subst e
      exact ⟨Nat.zero_le _, Nat.zero_le _, fun j x hx => by simp at hx⟩
    · injection hv with _ _ e
      subst e
      exact ⟨h1, h2, fun j x hx => by simp at hx⟩

theorem emptyS_take {l : List Slb} {k : Nat} {x : Slb} (hx : l[k]? = some x) : emptyS (l.take (k + 1)) = emptyS (l.take k) + (if x.many = 0 then 1 else 0) := by
  obtain ⟨hk, he⟩ := List.getElem?_eq_some_iff.1 hx
  unfold emptyS
  rw [List.take_succ_eq_append_getElem hk, he, List.filter_append, List.length_append]
  by_cases h : x.many = 0 <;> simp [h]
theorem emptyS_le (l : List Slb) : emptyS l ≤ l.length := List.length_filter_le _ _

set_option maxRecDepth 100000 in
set_option maxHeartbeats 4000000 in
theorem kept_ok {w W : World} {own : Own?} {c b : Nat} {C : Ca} {N : Nat} {L : List Blk} (h : Mine w own c b C N L W) (keep : Int) (hk : (C.keep : Int) ≤ keep) :
    Calls Try.prog 24 #[.pointer (some ⟨c, 0, none⟩), .int .i64 keep] W fun e W' => e = .returned (.bool true) ∧ Mine w own c b C N L W' ∧ Below W.heap.size W W' := by
  have HS := Lib.hid h.slabs
  have hemp := h.held.ok.emp
  have hl := ok_len h.held.ok
  obtain ⟨n, hn⟩ : ∃ n, n = C.sl.length := ⟨_, rfl⟩
  have HN := Lib.hid (And.intro hn hemp)
  rw [← hn] at hl
  clear h hn hemp
  go_enter Try.func24, Try.ntmps24
  go_wp2_with (go_at_call 14; fail)
  refine HS.out.mono ?_
  rintro _ W2 ⟨⟨A, cp, rfl, hr⟩, hM, hb⟩
  have hV := view_of hr
  have hcp := hV.1
  have hcm := hV.2.1
  unfold maxLen at hcm
  have H2 := Lib.hid (And.intro hV.2.2 (And.intro hM hb))
  rw [← HN.out.1] at hcp ⊢
  clear hr hM hb hV HS
  go_wp2_with (fail)
  go_loop [7, 8] (fun m i => ∃ k : Nat, k ≤ n ∧ i = .int .i64 (k : Int) ∧ m = .int .i64 (emptyS (C.sl.take k) : Int)) (fun _ i => n - (intOf i).toNat)
  case atStart => exact ⟨0, Nat.zero_le _, rfl, rfl⟩
  case round =>
    obtain ⟨k, hk, rfl, rfl⟩ := hrel
    have e0 : (0 : Int) ≤ (k : Int) := by omega
    by_cases hlt : k < n
    · have e1 : (k : Int) < (n : Int) := by omega
      obtain ⟨x, hx⟩ : ∃ x, C.sl[k]? = some x := ⟨_, List.getElem?_eq_getElem (by have := HN.out.1; omega)⟩
      obtain ⟨g, rfl, d0, d1⟩ := H2.out.1 k x hx
      have hes := emptyS_take hx
      have hel : emptyS (C.sl.take k) ≤ 1024 := by have := emptyS_le (C.sl.take k); have := List.length_take_le k C.sl; omega
      obtain ⟨ek, hek⟩ : ∃ ek, ek = emptyS (C.sl.take k) := ⟨_, rfl⟩
      obtain ⟨m, hm⟩ : ∃ m, m = x.many := ⟨_, rfl⟩
      rw [← hek] at hes hel ⊢
      rw [← hm] at d1 hes
      have hkk : IntKind.i64.wrap ((k : Int) + 1) = ((k + 1 : Nat) : Int) := by rw [IntWalk.i64_in _ (by omega)]; rfl
      have hee : IntKind.i64.wrap ((ek : Int) + 1) = ((ek + 1 : Nat) : Int) := by rw [IntWalk.i64_in _ (by omega)]; rfl
      by_cases hz : m = 0
      · have t1 : ((m : Int) == 0) = true := by rw [hz]; rfl
        rw [if_pos hz] at hes
        have HE := Lib.hid hes
        clear hes hek hm hx hz
        go_wp2
        go_round
        case rel => exact ⟨k + 1, by omega, by go_num, by rw [HE.out]; go_num⟩
        case measure => simp [intOf]; omega
      · have t1 : ((m : Int) == 0) = false := by rw [beq_eq_false_iff_ne]; omega
        rw [if_neg hz, Nat.add_zero] at hes
        have HE := Lib.hid hes
        clear hes hek hm hx hz
        go_wp2
        go_round
        case rel => exact ⟨k + 1, by omega, by go_num, by rw [HE.out]; rfl⟩
        case measure => simp [intOf]; omega
    · obtain rfl : k = n := by omega
      have e1 : ¬ ((k : Nat) : Int) < (k : Int) := by omega
      have hall : emptyS (C.sl.take k) = emptyS C.sl := by rw [HN.out.1, List.take_length]
      rw [hall]
      obtain ⟨en, hen⟩ : ∃ en, en = emptyS C.sl := ⟨_, rfl⟩
      have e2 : (en : Int) ≤ keep := by have := HN.out.2; omega
      rw [← hen]
      clear hall hen
      go_wp2
      go_ret
      exact ⟨rfl, H2.out.2.1, H2.out.2.2⟩

set_option maxRecDepth 100000 in
set_option maxHeartbeats 4000000 in
theorem full_ok {w W : World} {own : Own?} {c b : Nat} {C : Ca} {N : Nat} {L : List Blk} (h : Mine w own c b C N L W) (hno : allocC C N L = none) :
    Calls Try.prog 22 #[.pointer (some ⟨b, 0, none⟩), .pointer (some ⟨c, 0, none⟩), .int .i64 (C.order : Int)] W fun e W' => e = .returned (.bool true) ∧ Mine w own c b C N L W' ∧ Below W.heap.size W W' := by
  obtain ⟨hfull, hroom⟩ := alloc_noroom h.held.ok hno
  have HS := Lib.hid h.slabs
  have hod := h.held.ok.od
  have hl := ok_len h.held.ok
  obtain ⟨n, hn⟩ : ∃ n, n = C.sl.length := ⟨_, rfl⟩
  have HN := Lib.hid (And.intro hn (And.intro hfull (And.intro hroom hod)))
  rw [← hn] at hl
  clear h hn hno hfull hroom
  obtain ⟨o, ho⟩ : ∃ o, o = C.order := ⟨_, rfl⟩
  obtain ⟨cq, hcq⟩ : ∃ cq, cq = capa C.size C.order := ⟨_, rfl⟩
  have HO := Lib.hid (And.intro ho hcq)
  rw [← ho] at hod ⊢
  clear ho hcq
  go_enter Try.func22, Try.ntmps22
  go_wp2_with (go_at_call 14; fail)
  refine HS.out.mono ?_
  rintro _ W2 ⟨⟨A, cp, rfl, hr⟩, hM, hb⟩
  have hV := view_of hr
  have hcp := hV.1
  have hcm := hV.2.1
  unfold maxLen at hcm
  have hcap := hM.capacity
  rw [← HO.out.2] at hcap
  have HC := Lib.hid hcap
  have H2 := Lib.hid (And.intro hr (And.intro hM hb))
  rw [← HN.out.1] at hcp ⊢
  clear hr hM hb hV HS hcap
  go_wp2_with (go_at_call 29; fail)
  refine HC.out.mono ?_
  rintro _ W3 ⟨rfl, hM3, hb3⟩
  have hrm := roomL_ok W3 b N L o hM3.held.bu (by omega)
  rw [HO.out.1, HN.out.2.2.1] at hrm
  rw [← HO.out.1] at hrm
  have HR := Lib.hid hrm
  have H3 := Lib.hid (And.intro hM3 hb3)
  clear hM3 hb3 hrm HC
  go_wp2_with (go_at_call 51; fail)
  refine HR.out.mono ?_
  rintro _ W4 ⟨rfl, hb4⟩
  have hb24 : Below W2.heap.size W2 W4 := H3.out.2.trans (hb4.mono H3.out.2.size)
  have hV4 := view_of (row_keep H2.out.1 fun z _ hz => hb24.block z hz)
  have H4 := Lib.hid (And.intro hV4.2.2 (And.intro hb4 hb24))
  clear hb4 hb24 hV4 HR
  go_wp2_with (fail)
  go_loop [13] (fun i => ∃ k : Nat, k ≤ n ∧ i = .int .i64 (k : Int)) (fun i => n - (intOf i).toNat)
  case atStart => exact ⟨0, Nat.zero_le _, rfl⟩
  case round =>
    obtain ⟨k, hk, rfl⟩ := hrel
    have e0 : (0 : Int) ≤ (k : Int) := by omega
    by_cases hlt : k < n
    · have e1 : (k : Int) < (n : Int) := by omega
      obtain ⟨x, hx⟩ : ∃ x, C.sl[k]? = some x := ⟨_, List.getElem?_eq_getElem (by have := HN.out.1; omega)⟩
      obtain ⟨g, rfl, d0, d1⟩ := H4.out.1 k x hx
      rw [HN.out.2.1 x (List.mem_of_getElem? hx), ← HO.out.2] at d1
      have hkk : IntKind.i64.wrap ((k : Int) + 1) = ((k + 1 : Nat) : Int) := by rw [IntWalk.i64_in _ (by omega)]; rfl
      clear hx
      go_wp2
      go_round
      case rel => exact ⟨k + 1, by omega, by go_num⟩
      case measure => simp [intOf]; omega
    · obtain rfl : k = n := by omega
      have e1 : ¬ ((k : Nat) : Int) < (k : Int) := by omega
      go_wp2
      go_ret
      exact ⟨rfl, H3.out.1.step H4.out.2.1, below_step (below_step H2.out.2.2 H3.out.2 (Nat.le_refl _)) H4.out.2.1 (Nat.le_refl _)⟩
end Sl
end Go.Proofs.Ytlknhbcambdccaa
