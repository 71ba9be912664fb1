/- Load of a cache: when a state is valid; what is built. -/
import Derived.Test.YtlknhbcambdccaaK28
import Derived.Test.YtlknhbcambdccaaK26
import Derived.Test.YtlknhbcambdccaaK10
namespace Go.Proofs.Ytlknhbcambdccaa
open Go.RowKit
namespace Sl
open Bu

/-- What holds of a slab of a valid state. -/
def GoodX (L : List Blk) (o cap : Nat) (last : Int) (x : Int × List Bool) : Prop := 0 ≤ x.1 ∧ (x.1.toNat, o) ∈ L ∧ last < x.1 ∧ x.2.length = cap
def lastOf (l : List (Int × List Bool)) (i : Nat) : Int := if i = 0 then -1 else ((l[i - 1]?).map (·.1)).getD 0
def OkX (L : List Blk) (o cap : Nat) (l : List (Int × List Bool)) : Prop := ∀ (i : Nat) (x : Int × List Bool), l[i]? = some x → GoodX L o cap (lastOf l i) x
def toSlb (x : Int × List Bool) : Slb := ⟨x.1.toNat, x.2⟩
def loadS (l : List (Int × List Bool)) : List Slb := l.map toSlb
theorem loadS_get {l : List (Int × List Bool)} {i : Nat} {x : Slb} (h : (loadS l)[i]? = some x) : ∃ y, l[i]? = some y ∧ x = toSlb y := by
  unfold loadS at h
  rw [List.getElem?_map] at h
  obtain ⟨y, h1, h2⟩ := Option.map_eq_some_iff.1 h
  exact ⟨y, h1, h2.symm⟩

theorem okX_lt {L : List Blk} {o cap : Nat} {l : List (Int × List Bool)} (h : OkX L o cap l) : ∀ (j i : Nat) (x y : Int × List Bool), i < j → l[i]? = some x → l[j]? = some y → x.1 < y.1 := by
  intro j
  induction j with
  | zero => intro i x y hij; omega
  | succ j ih =>
    intro i x y hij hx hy
    have h1 := (h (j + 1) y hy).2.2.1
    unfold lastOf at h1
    rw [if_neg (by omega), Nat.add_sub_cancel] at h1
    obtain ⟨z, hz⟩ : ∃ z, l[j]? = some z := ⟨_, List.getElem?_eq_getElem (by have := (List.getElem?_eq_some_iff.1 hy).1; omega)⟩
    rw [hz] at h1
    have h1 : z.1 < y.1 := h1
    by_cases e : i = j
    · subst e
      rw [hx] at hz
      injection hz with hz
      rw [hz]; exact h1
    · have := ih i x z (by omega) hx hz
      omega

/-- A valid state makes a cache. -/
theorem okX_ca {N s o k : Nat} {L : List Blk} {l : List (Int × List Bool)} (hsz : sizesB (s : Int) (o : Int) (k : Int) = true) (hS : St N L) (h : OkX L o (capa s o) l) (he : emptyS (loadS l) ≤ k) : CaOk ⟨s, o, k, loadS l⟩ N L := by
  unfold sizesB at hsz
  rw [decide_eq_true_eq] at hsz
  obtain ⟨h1, h2, h3, h4, h5, h6, h7, h8⟩ := hsz
  rw [Int.toNat_natCast] at h8
  have key : ∀ x ∈ loadS l, ∃ y ∈ l, x = toSlb y := fun x hx => by
    obtain ⟨y, hy, rfl⟩ := List.mem_map.1 hx
    exact ⟨y, hy, rfl⟩
  have good : ∀ y ∈ l, 0 ≤ y.1 ∧ (y.1.toNat, o) ∈ L ∧ y.2.length = capa s o := fun y hy => by
    obtain ⟨i, hi⟩ := List.mem_iff_getElem?.1 hy
    obtain ⟨g1, g2, _, g4⟩ := h i y hi
    exact ⟨g1, g2, g4⟩
  refine ⟨⟨by show 8 ≤ s; omega, by show s ≤ 1024; omega, by show s % 8 = 0; omega⟩, by show o ≤ 4; omega, by show k ≤ 64; omega, by show s ≤ 64 * 2 ^ o; omega, hS, ?_, fun x hx => ?_, fun x hx => ?_, he⟩
  · show (loadS l).Pairwise _
    rw [List.pairwise_iff_getElem]
    intro i j hi hj hij
    obtain ⟨x, hx, hxe⟩ := loadS_get (List.getElem?_eq_getElem hi)
    obtain ⟨y, hy, hye⟩ := loadS_get (List.getElem?_eq_getElem hj)
    rw [hxe, hye]
    have hlt := okX_lt h j i x y hij hx hy
    have h0 := (good x (List.mem_of_getElem? hx)).1
    show x.1.toNat < y.1.toNat
    omega
  · obtain ⟨y, hy, rfl⟩ := key x hx
    exact (good y hy).2.1
  · obtain ⟨y, hy, rfl⟩ := key x hx
    exact (good y hy).2.2

/-- Owner of the allocator, of any page: is it the first one of a given block of an order? -/
theorem owner_any (w : World) (b N : Nat) (L : List Blk) (page : Int) (o : Nat) (h : BuL w b N L) :
    Calls Try.prog 61 #[.pointer (some ⟨b, 0, none⟩), .int .i64 page] w fun e w' => (∃ pp oo er : Int, e = .returned (.tuple #[.agg #[.int .i64 pp, .int .i64 oo], .int .i64 er]) ∧ ((er = 0 ∧ pp = page ∧ oo = (o : Int)) ↔ (0 ≤ page ∧ (page.toNat, o) ∈ L))) ∧ Below w.heap.size w w' := by
  by_cases hp : page < 0 ∨ ((2 ^ N : Nat) : Int) ≤ page
  · refine (ownerL_bad w b N L page h hp).mono ?_
    rintro e w' ⟨he, hb⟩
    refine ⟨⟨0, 0, 7, he, ⟨fun h => by omega, fun ⟨h1, h2⟩ => ?_⟩⟩, hb⟩
    have := st_le h.2 _ h2
    have h3 := (h.2.inb _ h2)
    exfalso
    have h4 : page.toNat + 2 ^ o ≤ 2 ^ N := h3.2.2
    have := pow_pos2 o
    omega
  · obtain ⟨p, rfl⟩ := Int.eq_ofNat_of_zero_le (show 0 ≤ page by omega)
    have hp2 : p < 2 ^ N := by omega
    refine (ownerL_ok w b N L p h hp2).mono ?_
    rintro e w' ⟨he, hb⟩
    refine ⟨?_, hb⟩
    cases ho : ownerB L p with
    | none =>
      rw [ho] at he
      refine ⟨0, 0, 4, he, ⟨fun h => by omega, fun ⟨_, h2⟩ => ?_⟩⟩
      rw [Int.toNat_natCast] at h2
      exact absurd ⟨Nat.le_refl _, (by have := pow_pos2 o; show p < p + 2 ^ o; omega)⟩ (ownerB_none ho h2)
    | some x =>
      rw [ho] at he
      obtain ⟨g1, g2, g3⟩ := ownerB_some ho
      refine ⟨(x.1 : Int), (x.2 : Int), 0, he, ⟨fun ⟨_, h1, h2⟩ => ⟨by omega, ?_⟩, fun ⟨_, h2⟩ => ?_⟩⟩
      · have e1 : x.1 = p := by omega
        have e2 : x.2 = o := by omega
        rw [Int.toNat_natCast, ← e1, ← e2]; exact g1
      · rw [Int.toNat_natCast] at h2
        have h3 := ownerB_of h.2 (p := p) h2 (Nat.le_refl _) (by have := pow_pos2 o; show p < p + 2 ^ o; omega)
        rw [ho] at h3
        injection h3 with h3
        rw [h3]
        exact ⟨rfl, rfl, rfl⟩
end Sl
end Go.Proofs.Ytlknhbcambdccaa
