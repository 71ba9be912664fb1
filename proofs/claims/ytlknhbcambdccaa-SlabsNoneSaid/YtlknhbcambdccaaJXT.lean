/- Slabs, plain: what Alloc, Free and Trim do to the allocated objects. -/
import Derived.Test.YtlknhbcambdccaaJXS
namespace Go.Proofs.Ytlknhbcambdccaa
open Go.RowKit
namespace Sl
open Bu

theorem isObj_mem {C : Ca} {a : Nat} : IsObj C a ↔ ∃ x ∈ C.sl, ∃ i, x.us[i]? = some true ∧ a = addrS C.size x i := by
  constructor
  · rintro ⟨j, x, i, h1, h2, h3⟩
    exact ⟨x, List.mem_of_getElem? h1, i, h2, h3⟩
  · rintro ⟨x, hx, i, h2, h3⟩
    obtain ⟨j, hj⟩ := List.mem_iff_getElem?.1 hx
    exact ⟨j, x, i, hj, h2, h3⟩

theorem obj_far {C : Ca} {N : Nat} {L : List Blk} (h : CaOk C N L) {a b : Nat} (ha : IsObj C a) (hb : IsObj C b) (hne : a ≠ b) : a + C.size ≤ b ∨ b + C.size ≤ a := by
  obtain ⟨j, x, i, h1, h2, rfl⟩ := ha
  obtain ⟨k, y, t, h3, h4, rfl⟩ := hb
  rcases slots_far h h1 h3 (List.getElem?_eq_some_iff.1 h2).1 (List.getElem?_eq_some_iff.1 h4).1 with ⟨e1, e2⟩ | e | e
  · subst e1; subst e2
    rw [h1] at h3
    injection h3 with h3
    subst h3
    exact absurd rfl hne
  · exact .inl e
  · exact .inr e
theorem obj_in {C : Ca} {N : Nat} {L : List Blk} (h : CaOk C N L) {a : Nat} (ha : IsObj C a) : a % 8 = 0 ∧ a < 66000 ∧ ∃ x ∈ C.sl, 64 * x.pg ≤ a ∧ a + C.size ≤ 64 * x.pg + 64 * 2 ^ C.order := by
  obtain ⟨x, hx, i, h2, rfl⟩ := isObj_mem.1 ha
  have s1 := slot_in h (i := i) (by rw [← h.len x hx]; exact (List.getElem?_eq_some_iff.1 h2).1)
  have hp : x.pg + 2 ^ C.order ≤ 1024 := (st_le h.st _ (h.giv x hx)).2
  have h8 := h.sz
  refine ⟨?_, ?_, x, hx, ?_, ?_⟩
  · unfold addrS
    obtain ⟨q, hq⟩ : ∃ q, C.size = 8 * q := ⟨C.size / 8, by omega⟩
    rw [hq, show i * (8 * q) = 8 * (i * q) by rw [← Nat.mul_assoc, Nat.mul_comm i 8, Nat.mul_assoc]]
    omega
  · unfold addrS; omega
  · unfold addrS; omega
  · unfold addrS; omega

theorem obj_set {C : Ca} {N : Nat} {L : List Blk} (h : CaOk C N L) {j i : Nat} {x : Slb} (hx : C.sl[j]? = some x) (hi : i < x.us.length) (v : Bool) (z : Nat) :
    IsObj { C with sl := setS C.sl j i v } z ↔ (v = true ∧ z = addrS C.size x i) ∨ (IsObj C z ∧ z ≠ addrS C.size x i) := by
  have hset := setS_eq (i := i) (v := v) hx
  have hj := (List.getElem?_eq_some_iff.1 hx).1
  constructor
  · rintro ⟨k, y, t, h1, h2, h3⟩
    have h1 : (setS C.sl j i v)[k]? = some y := h1
    rw [hset] at h1
    by_cases e : j = k
    · subst e
      rw [List.getElem?_set_self hj] at h1
      injection h1 with h1
      subst h1
      have h2 : (x.us.set i v)[t]? = some true := h2
      by_cases f : i = t
      · subst f
        rw [List.getElem?_set_self hi] at h2
        injection h2 with h2
        exact .inl ⟨h2, h3⟩
      · rw [List.getElem?_set_ne f] at h2
        have ht := (List.getElem?_eq_some_iff.1 h2).1
        refine .inr ⟨⟨j, x, t, hx, h2, h3⟩, fun he => f ?_⟩
        have h3 : z = addrS C.size x t := h3
        exact (slot_eq h hx hx hi ht (by rw [← he, h3])).2
    · rw [List.getElem?_set_ne e] at h1
      have ht := (List.getElem?_eq_some_iff.1 h2).1
      refine .inr ⟨⟨k, y, t, h1, h2, h3⟩, fun he => e ?_⟩
      have h3 : z = addrS C.size y t := h3
      exact (slot_eq h hx h1 hi ht (by rw [← he, h3])).1
  · have hself : (setS C.sl j i v)[j]? = some ⟨x.pg, x.us.set i v⟩ := by rw [hset, List.getElem?_set_self hj]
    rintro (⟨rfl, rfl⟩ | ⟨⟨k, y, t, h1, h2, h3⟩, hne⟩)
    · exact ⟨j, _, i, hself, List.getElem?_set_self hi, rfl⟩
    · by_cases e : j = k
      · subst e
        rw [hx] at h1
        injection h1 with h1
        subst h1
        have f : i ≠ t := fun f => hne (by rw [h3, f])
        exact ⟨j, _, t, hself, by show (x.us.set i v)[t]? = _; rw [List.getElem?_set_ne f]; exact h2, h3⟩
      · exact ⟨k, y, t, by show (setS C.sl j i v)[k]? = _; rw [hset, List.getElem?_set_ne e]; exact h1, h2, h3⟩

theorem none_many {x : Slb} (h : x.many = 0) (i : Nat) : x.us[i]? ≠ some true := fun he => by
  have : 1 ≤ x.us.count true := List.count_pos_iff.2 (List.mem_of_getElem? he)
  unfold Slb.many at h
  omega
theorem obj_erase {C : Ca} {k : Nat} {y : Slb} (hy : C.sl[k]? = some y) (hz : y.many = 0) (z : Nat) : IsObj { C with sl := C.sl.eraseIdx k } z ↔ IsObj C z := by
  rw [isObj_mem, isObj_mem]
  constructor
  · rintro ⟨x, hx, r⟩
    exact ⟨x, List.mem_of_mem_eraseIdx hx, r⟩
  · rintro ⟨x, hx, i, h1, h2⟩
    obtain ⟨j, hj⟩ := List.mem_iff_getElem?.1 hx
    have hjk : j ≠ k := fun e => by
      subst e
      rw [hy] at hj
      injection hj with hj
      subst hj
      exact none_many hz i h1
    exact ⟨x, List.mem_eraseIdx_iff_getElem?.2 ⟨j, hjk, hj⟩, i, h1, h2⟩

/-- The allocator has given the cache's slabs, and nothing else. -/
def Exact (C : Ca) (L : List Blk) : Prop := ∀ z ∈ L, ∃ x ∈ C.sl, z = (x.pg, C.order)

theorem exact_set {C : Ca} {L : List Blk} {j i : Nat} {x : Slb} {v : Bool} (h : Exact C L) (hx : C.sl[j]? = some x) : Exact { C with sl := setS C.sl j i v } L := by
  intro z hz
  obtain ⟨y, hy, rfl⟩ := h z hz
  obtain ⟨k, hk⟩ := List.mem_iff_getElem?.1 hy
  have hset := setS_eq (i := i) (v := v) hx
  have hj := (List.getElem?_eq_some_iff.1 hx).1
  by_cases e : j = k
  · subst e
    rw [hx] at hk
    injection hk with hk
    subst hk
    exact ⟨⟨x.pg, x.us.set i v⟩, List.mem_of_getElem? (i := j) (by show (setS C.sl j i v)[j]? = _; rw [hset, List.getElem?_set_self hj]), rfl⟩
  · exact ⟨y, List.mem_of_getElem? (i := k) (by show (setS C.sl j i v)[k]? = _; rw [hset, List.getElem?_set_ne e]; exact hk), rfl⟩
theorem exact_del {C : Ca} {L : List Blk} {k : Nat} {y : Slb} (h : Exact C L) (hy : C.sl[k]? = some y) : Exact { C with sl := C.sl.eraseIdx k } (delB L (y.pg, C.order)) := by
  intro z hz
  obtain ⟨h1, h2⟩ := mem_delB.1 hz
  obtain ⟨x, hx, rfl⟩ := h z h1
  obtain ⟨j, hj⟩ := List.mem_iff_getElem?.1 hx
  have hjk : j ≠ k := fun e => by
    subst e
    rw [hy] at hj
    injection hj with hj
    subst hj
    exact h2 rfl
  exact ⟨x, List.mem_eraseIdx_iff_getElem?.2 ⟨j, hjk, hj⟩, rfl⟩

/-- Free of an allocated object. -/
theorem free_obj {C : Ca} {N : Nat} {L : List Blk} (h : CaOk C N L) {a : Nat} (ha : IsObj C a) :
    ∃ sl L', freeC C L (a : Int) = (0, sl, L') ∧ (∀ z, IsObj { C with sl := sl } z ↔ IsObj C z ∧ z ≠ a) ∧ (Exact C L → Exact { C with sl := sl } L') := by
  obtain ⟨j, x, i, hx, hv, rfl⟩ := ha
  have hi := (List.getElem?_eq_some_iff.1 hv).1
  have hh := hold_of h hx hi
  have hd : i * C.size / C.size = i := Nat.mul_div_cancel _ (by have := h.sz.1; omega)
  have hf := freeC_hit (L := L) hh hx
  rw [hd, if_neg (by rw [Nat.mul_mod_left]; omega), if_neg (fun hn => hn hv)] at hf
  have hso := obj_set h hx hi false
  by_cases he : emptyS (setS C.sl j i false) ≤ C.keep
  · rw [if_pos he] at hf
    refine ⟨_, _, hf, fun z => ?_, fun hE => exact_set hE hx⟩
    rw [hso z]
    simp
  · rw [if_neg he] at hf
    cases hk : lastE (setS C.sl j i false) with
    | none =>
      rw [hk] at hf
      refine ⟨_, _, hf, fun z => ?_, fun hE => exact_set hE hx⟩
      rw [hso z]
      simp
    | some k =>
      rw [hk] at hf
      obtain ⟨y, hy, hz⟩ := lastE_some hk
      simp only [hy] at hf
      refine ⟨_, _, hf, fun z => ?_, fun hE => exact_del (C := { C with sl := setS C.sl j i false }) (exact_set hE hx) hy⟩
      rw [obj_erase (C := { C with sl := setS C.sl j i false }) hy hz z, hso z]
      simp

/-- Alloc where there is room. -/
theorem alloc_obj {C : Ca} {N : Nat} {L : List Blk} (h : CaOk C N L) {a : Nat} {sl : List Slb} {L' : List Blk} (ha : allocC C N L = some (a, sl, L')) :
    (∀ z, IsObj { C with sl := sl } z ↔ z = a ∨ IsObj C z) ∧ ¬ IsObj C a ∧ (Exact C L → Exact { C with sl := sl } L') := by
  unfold allocC at ha
  cases hp : pickS 0 none C.sl with
  | some jm =>
    obtain ⟨j, m⟩ := jm
    obtain ⟨x, hx, hxm, hml, _⟩ := pickS_some (l := C.sl) (k := C.sl.length) (Nat.le_refl _) (by rw [List.take_length]; exact hp)
    rw [hp] at ha
    simp only [hx] at ha
    injection ha with ha
    injection ha with h1 h2
    injection h2 with h2 h3
    subst h1; subst h2; subst h3
    obtain ⟨hfi, hfv⟩ := freeI_lt (x := x) (by omega)
    have hno : ¬ IsObj C (addrS C.size x (freeI x.us)) := by
      rintro ⟨k, y, t, g1, g2, g3⟩
      obtain ⟨e1, e2⟩ := slot_eq h hx g1 hfi (List.getElem?_eq_some_iff.1 g2).1 g3
      subst e1
      rw [hx] at g1
      injection g1 with g1
      subst g1
      rw [← e2, hfv] at g2
      cases g2
    refine ⟨fun z => ?_, hno, fun hE => exact_set hE hx⟩
    rw [obj_set h hx hfi true z]
    constructor
    · rintro (⟨_, e⟩ | ⟨e, _⟩)
      · exact .inl e
      · exact .inr e
    · rintro (e | e)
      · exact .inl ⟨rfl, e⟩
      · exact .inr ⟨e, fun e2 => hno (e2 ▸ e)⟩
  | none =>
    rw [hp] at ha
    cases hb : allocB N L C.order with
    | none => simp only [hb] at ha; cases ha
    | some pl =>
      obtain ⟨p, L2⟩ := pl
      simp only [hb] at ha
      injection ha with ha
      injection ha with h1 h2
      injection h2 with h2 h3
      subst h1; subst h2; subst h3
      have hcp := (capa_pos h).1
      have hfresh := fresh_page h hb
      have hput := put_is hb
      have hus : ∀ i, (true :: List.replicate (capa C.size C.order - 1) false)[i]? = some true ↔ i = 0 := by
        intro i
        cases i with
        | zero => simp
        | succ i =>
          rw [List.getElem?_cons_succ, List.getElem?_replicate]
          split <;> simp
      have hok := ok_ins (us := true :: List.replicate (capa C.size C.order - 1) false) h hb (by rw [List.length_cons, List.length_replicate]; omega) (by simp)
      have hadr : addrS C.size ⟨p, true :: List.replicate (capa C.size C.order - 1) false⟩ 0 = 64 * p := by unfold addrS; simp
      refine ⟨fun z => ?_, fun hn => ?_, fun hE z hz => ?_⟩
      · rw [isObj_mem, isObj_mem]
        constructor
        · rintro ⟨x, hx, i, g1, g2⟩
          rcases mem_insS.1 hx with e | e
          · subst e
            have := (hus i).1 g1
            subst this
            exact .inl (g2.trans hadr)
          · exact .inr ⟨x, e, i, g1, g2⟩
        · rintro (e | ⟨x, hx, i, g1, g2⟩)
          · exact ⟨_, mem_insS.2 (.inl rfl), 0, (hus 0).2 rfl, e.trans hadr.symm⟩
          · exact ⟨x, mem_insS.2 (.inr hx), i, g1, g2⟩
      · obtain ⟨x, hx, i, g1, g2⟩ := isObj_mem.1 hn
        have hne := hfresh x hx
        obtain ⟨k, hk⟩ := List.mem_iff_getElem?.1 (show x ∈ insS C.sl ⟨p, true :: List.replicate (capa C.size C.order - 1) false⟩ from mem_insS.2 (.inr hx))
        obtain ⟨k2, hk2⟩ := List.mem_iff_getElem?.1 (show (⟨p, true :: List.replicate (capa C.size C.order - 1) false⟩ : Slb) ∈ insS C.sl ⟨p, true :: List.replicate (capa C.size C.order - 1) false⟩ from mem_insS.2 (.inl rfl))
        have := (slot_eq hok hk2 hk (i := 0) (by simp) (List.getElem?_eq_some_iff.1 g1).1 (hadr.trans g2)).1
        subst this
        rw [hk2] at hk
        injection hk with hk
        subst hk
        exact hne rfl
      · rw [hput] at hz
        rcases mem_putB.1 hz with e | e
        · exact ⟨_, mem_insS.2 (.inl rfl), e⟩
        · obtain ⟨x, hx, he⟩ := hE z e
          exact ⟨x, mem_insS.2 (.inr hx), he⟩

/-- Alloc where there is none. -/
theorem alloc_noroom {C : Ca} {N : Nat} {L : List Blk} (h : CaOk C N L) (ha : allocC C N L = none) : (∀ x ∈ C.sl, x.many = capa C.size C.order) ∧ roomB C.order (blocksB N L) = 0 := by
  unfold allocC at ha
  cases hp : pickS 0 none C.sl with
  | some jm =>
    obtain ⟨j, m⟩ := jm
    obtain ⟨x, hx, _⟩ := pickS_some (l := C.sl) (k := C.sl.length) (Nat.le_refl _) (by rw [List.take_length]; exact hp)
    rw [hp] at ha
    simp only [hx] at ha
    cases ha
  | none =>
    refine ⟨fun x hx => ?_, ?_⟩
    · obtain ⟨i, hi⟩ := List.mem_iff_getElem?.1 hx
      have h1 := pickS_none (l := C.sl) (k := C.sl.length) (Nat.le_refl _) (by rw [List.take_length]; exact hp) i x (List.getElem?_eq_some_iff.1 hi).1 hi
      have h2 := many_le x
      rw [h.len x hx] at h1 h2
      omega
    · rw [hp] at ha
      have hb : allocB N L C.order = none := by
        cases hb : allocB N L C.order with
        | none => rfl
        | some pl => obtain ⟨p, L2⟩ := pl; simp only [hb] at ha; cases ha
      have := room_step h.st C.order
      rw [hb] at this
      exact this

/-- Trim where nothing is allocated. -/
theorem trim_all {C : Ca} {L : List Blk} (h : ∀ a, ¬ IsObj C a) (hE : Exact C L) : (trimC C).sl = [] ∧ trimL C L = [] := by
  have hz : ∀ x ∈ C.sl, x.many = 0 := fun x hx => by
    refine Classical.byContradiction fun hn => ?_
    have hp : 0 < x.us.count true := Nat.pos_of_ne_zero hn
    obtain ⟨i, hi⟩ := List.mem_iff_getElem?.1 (List.count_pos_iff.1 hp)
    exact h _ (isObj_mem.2 ⟨x, hx, i, hi, rfl⟩)
  refine ⟨?_, ?_⟩
  · show C.sl.filter full0 = []
    rw [List.filter_eq_nil_iff]
    intro x hx
    unfold full0
    simp [hz x hx]
  · unfold trimL delK
    rw [List.filter_eq_self.2 fun x hx => by simp [hz x hx]]
    have key : ∀ (l : List Slb) (M : List Blk) (z : Blk), z ∈ l.foldr (fun x M => delB M (x.pg, C.order)) M → z ∈ M ∧ ∀ x ∈ l, z ≠ (x.pg, C.order) := by
      intro l
      induction l with
      | nil => intro M z hz; exact ⟨hz, fun x hx => by cases hx⟩
      | cons y l ih =>
        intro M z hz
        rw [List.foldr_cons] at hz
        obtain ⟨h1, h2⟩ := mem_delB.1 hz
        obtain ⟨h3, h4⟩ := ih M z h1
        refine ⟨h3, fun x hx => ?_⟩
        rcases List.mem_cons.1 hx with e | e
        · subst e; exact h2
        · exact h4 x e
    refine List.eq_nil_iff_forall_not_mem.2 fun z hz => ?_
    obtain ⟨h1, h2⟩ := key _ _ _ hz
    obtain ⟨x, hx, he⟩ := hE z h1
    exact h2 x hx he
end Sl
end Go.Proofs.Ytlknhbcambdccaa
