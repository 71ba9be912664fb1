/- Saved states of caches in memory; Save. -/
import Derived.Test.YtlknhbcambdccaaJYA
import Derived.Test.YtlknhbcambdccaaK29
import Derived.Test.YtlknhbcambdccaaK25
namespace Go.Proofs.Ytlknhbcambdccaa
open Go.RowKit Go.Shelf
namespace Sl
open Bu

/-- Bools that lie in memory, in blocks from B on. -/
def BoolAt (B : Nat) (w : World) (A : Option Addr) (c : Nat) (us : List Bool) : Prop :=
  us.length ≤ c ∧ c ≤ maxLen ∧ ∀ (i : Nat) (v : Bool), us[i]? = some v → ∃ g o, A = some ⟨g, o, none⟩ ∧ B ≤ g ∧ g < w.heap.size ∧ w.cell? ⟨g, o + i, none⟩ = some (.bool v)
/-- The slabs of a saved state. -/
def SbAt (B : Nat) (w : World) (A : Option Addr) (c : Nat) (l : List (Int × List Bool)) : Prop :=
  l.length ≤ c ∧ c ≤ maxLen ∧ ∀ (j : Nat) (x : Int × List Bool), l[j]? = some x → ∃ g o U cu, A = some ⟨g, o, none⟩ ∧ B ≤ g ∧ g < w.heap.size ∧ w.cell? ⟨g, o + j * 2, none⟩ = some (.int .i64 x.1) ∧ w.cell? ⟨g, o + j * 2 + 1, none⟩ = some (.slice U x.2.length cu) ∧ BoolAt B w U cu x.2
theorem BoolAt.keep {B : Nat} {w w' : World} {A : Option Addr} {c : Nat} {us : List Bool} (h : BoolAt B w A c us) (hs : w.heap.size ≤ w'.heap.size) (hk : ∀ z, B ≤ z → z < w.heap.size → w'.heap[z]? = w.heap[z]?) : BoolAt B w' A c us :=
  ⟨h.1, h.2.1, fun i v hv => by
    obtain ⟨g, o, h1, h2, h3, h4⟩ := h.2.2 i v hv
    exact ⟨g, o, h1, h2, by omega, (World.cell?_of_block (a := ⟨g, o + i, none⟩) (hk g h2 h3)).trans h4⟩⟩
theorem SbAt.keep {B : Nat} {w w' : World} {A : Option Addr} {c : Nat} {l : List (Int × List Bool)} (h : SbAt B w A c l) (hs : w.heap.size ≤ w'.heap.size) (hk : ∀ z, B ≤ z → z < w.heap.size → w'.heap[z]? = w.heap[z]?) : SbAt B w' A c l :=
  ⟨h.1, h.2.1, fun j x hx => by
    obtain ⟨g, o, U, cu, h1, h2, h3, h4, h5, h6⟩ := h.2.2 j x hx
    exact ⟨g, o, U, cu, h1, h2, by omega, (World.cell?_of_block (a := ⟨g, _, none⟩) (hk g h2 h3)).trans h4, (World.cell?_of_block (a := ⟨g, _, none⟩) (hk g h2 h3)).trans h5, h6.keep hs hk⟩⟩
theorem SbAt.below {B : Nat} {w w' : World} {A : Option Addr} {c : Nat} {l : List (Int × List Bool)} (h : SbAt B w A c l) (hb : Below w.heap.size w w') : SbAt B w' A c l := h.keep hb.size fun z _ hz => hb.block z hz
theorem bool_row {B : Nat} {w : World} {A : Option Addr} {c : Nat} {us : List Bool} (h : w.ownsRow B 4 1 (.slice A us.length c) us.length (bcells us)) : BoolAt B w A c us := by
  rcases h.2 with ⟨hv, h0⟩ | ⟨g, cp, cur, hv, hB, hg, h1, h2, _⟩
  · injection hv with e1 e2 e3
    refine ⟨by omega, by unfold maxLen; omega, fun j x hx => ?_⟩
    have := (List.getElem?_eq_some_iff.1 hx).1; omega
  · injection hv with e1 e2 e3
    subst e1; subst e3
    exact ⟨h1, h2, fun j x hx => ⟨g, 0, rfl, hB, lt_of_heap hg, by rw [Nat.zero_add]; exact row_at h (by rw [bcells_get, hx]; rfl)⟩⟩

/-- The slabs of a cache, as Save gives them. -/
def saveS (l : List Slb) : List (Int × List Bool) := l.map fun x => ((x.pg : Int), x.us)
theorem saveS_len (l : List Slb) : (saveS l).length = l.length := List.length_map _

theorem slblock_info : (Try.prog.info? 90).map (fun i => (i.zero.isSome, i.zero.map (fun z => z.cells.size), i.size, i.bytes)) = some (true, some 2, 2, 32) := by kernel_rfl

theorem bool_size (w : World) : (Go.sizeOf 4).run Try.prog w = .ok 1 w := by kernel_rfl

set_option maxRecDepth 100000 in
theorem clone_ok (w : World) (A : Option Addr) (c : Nat) (us : List Bool) (hp : 0 < us.length) (h : BoolAt 0 w A c us) (hl : us.length ≤ 1000000) :
    Calls Try.prog 60 #[.slice A us.length c] w fun e w' => ∃ A' c', e = .returned (.slice A' us.length c') ∧ w'.ownsRow w.heap.size 4 1 (.slice A' us.length c') us.length (bcells us) ∧ Below w.heap.size w w' := by
  obtain ⟨i0, hi, h0, h1, h2⟩ := info_parts bool_info
  obtain ⟨v, hv⟩ : ∃ v, us[0]? = some v := ⟨_, List.getElem?_eq_getElem hp⟩
  obtain ⟨b, o, rfl, _⟩ := h.2.2 0 v hv
  have hbl : (bcells us).length = us.length * 1 := by rw [bcells_len, Nat.mul_one]
  refine (AnyE.slices_Clone Try.cloneB i0 (.bool false) 1 1 hi h0 h1 h2 rfl (by decide) bool_size b o us.length c (bcells us) w hbl (by unfold maxLen; omega) (by omega) ?_ ?_).mono ?_
  · intro j u hu
    rw [bcells_get] at hu
    obtain ⟨v, hv, rfl⟩ := Option.map_eq_some_iff.1 hu
    obtain ⟨g', o', hA, _, _, hc⟩ := h.2.2 j v hv
    injection hA with hA; injection hA with e1 e2
    subst e1; subst e2
    exact hc
  · intro u hu
    obtain ⟨v, _, rfl⟩ := List.mem_map.1 hu
    rfl
  · rintro e w' ⟨v', rfl, hr, _, hb⟩
    obtain ⟨A', c', rfl⟩ := own_row hr
    exact ⟨A', c', rfl, hr, hb⟩
end Sl
end Go.Proofs.Ytlknhbcambdccaa
