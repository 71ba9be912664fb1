/- How a saved state lies in memory; the walks of Clone and Save. -/
import Derived.Test.YtllmddhahpegmaaR
import Derived.Deep.AppendLies
import Derived.Lib.SliceRun
namespace Go.Proofs.Ytllmddhahpegmaa
open Go.RowKit
namespace Ne

/-- An arena of a state. -/
structure SN where
  p : Int
  a : Int
  s : Int
  l : List Item
  cl : Bool

def saveNode : Option Node → SN
  | none => ⟨-1, 0, 0, [], true⟩
  | some n => ⟨n.p, n.a, n.s, n.l, false⟩
def save (M : Tr) : List SN := M.map saveNode

/-- A slice reads as items; its block is one of those that K names. -/
def RowK (K : Nat → Prop) (w : World) (A : Option Addr) (c : Nat) (l : List Item) : Prop :=
  l.length ≤ c ∧ c ≤ maxLen ∧ ∀ (j : Nat) (x : Item), l[j]? = some x → ∃ g o, A = some ⟨g, o, none⟩ ∧ K g ∧ (∃ cur, w.heap[g]? = some (.cells cur 54 (0, 0))) ∧
    w.cell? ⟨g, o + j * 3, none⟩ = some (.int .i64 x.a) ∧ w.cell? ⟨g, o + j * 3 + 1, none⟩ = some (.int .i64 x.s) ∧ w.cell? ⟨g, o + j * 3 + 2, none⟩ = some (.int .i64 x.c)

/-- A slice reads as the arenas of a state. -/
def StK (K : Nat → Prop) (w : World) (A : Option Addr) (c : Nat) (s : List SN) : Prop :=
  s.length ≤ c ∧ c ≤ maxLen ∧ ∀ (j : Nat) (x : SN), s[j]? = some x → ∃ g o B cB, A = some ⟨g, o, none⟩ ∧ K g ∧ (∃ cur, w.heap[g]? = some (.cells cur 35 (0, 0))) ∧
    w.cell? ⟨g, o + j * 5, none⟩ = some (.int .i64 x.p) ∧ w.cell? ⟨g, o + j * 5 + 1, none⟩ = some (.int .i64 x.a) ∧ w.cell? ⟨g, o + j * 5 + 2, none⟩ = some (.int .i64 x.s) ∧
    w.cell? ⟨g, o + j * 5 + 3, none⟩ = some (.slice B x.l.length cB) ∧ w.cell? ⟨g, o + j * 5 + 4, none⟩ = some (.bool x.cl) ∧ RowK K w B cB x.l

theorem RowK.keep {K K' : Nat → Prop} {w w' : World} {A : Option Addr} {c : Nat} {l : List Item} (h : RowK K w A c l) (hk : ∀ k, K k → k < w.heap.size → w'.heap[k]? = w.heap[k]? ∧ K' k) : RowK K' w' A c l := by
  refine ⟨h.1, h.2.1, fun j x hx => ?_⟩
  obtain ⟨g, o, hA, hg, ⟨cur, hcur⟩, h1, h2, h3⟩ := h.2.2 j x hx
  obtain ⟨e, hg'⟩ := hk g hg (lt_of_heap hcur)
  exact ⟨g, o, hA, hg', ⟨cur, e.trans hcur⟩, (World.cell?_of_block (a := ⟨g, _, none⟩) e).trans h1, (World.cell?_of_block (a := ⟨g, _, none⟩) e).trans h2, (World.cell?_of_block (a := ⟨g, _, none⟩) e).trans h3⟩

theorem StK.keep {K K' : Nat → Prop} {w w' : World} {A : Option Addr} {c : Nat} {s : List SN} (h : StK K w A c s) (hk : ∀ k, K k → k < w.heap.size → w'.heap[k]? = w.heap[k]? ∧ K' k) : StK K' w' A c s := by
  refine ⟨h.1, h.2.1, fun j x hx => ?_⟩
  obtain ⟨g, o, B, cB, hA, hg, ⟨cur, hcur⟩, h1, h2, h3, h4, h5, h6⟩ := h.2.2 j x hx
  obtain ⟨e, hg'⟩ := hk g hg (lt_of_heap hcur)
  exact ⟨g, o, B, cB, hA, hg', ⟨cur, e.trans hcur⟩, (World.cell?_of_block (a := ⟨g, _, none⟩) e).trans h1, (World.cell?_of_block (a := ⟨g, _, none⟩) e).trans h2, (World.cell?_of_block (a := ⟨g, _, none⟩) e).trans h3,
    (World.cell?_of_block (a := ⟨g, _, none⟩) e).trans h4, (World.cell?_of_block (a := ⟨g, _, none⟩) e).trans h5, h6.keep hk⟩

theorem RowK.below {K : Nat → Prop} {w w' : World} {A : Option Addr} {c : Nat} {l : List Item} (h : RowK K w A c l) (hb : Below w.heap.size w w') : RowK K w' A c l :=
  h.keep fun k hk hl => ⟨hb.block k hl, hk⟩
theorem StK.below {K : Nat → Prop} {w w' : World} {A : Option Addr} {c : Nat} {s : List SN} (h : StK K w A c s) (hb : Below w.heap.size w w') : StK K w' A c s :=
  h.keep fun k hk hl => ⟨hb.block k hl, hk⟩

theorem RowK.of_owns {base : Nat} {w : World} {A : Option Addr} {c : Nat} {l : List Item} (h : w.ownsRow base 54 3 (.slice A l.length c) l.length (icells l)) : RowK (fun k => base ≤ k) w A c l := by
  have h0 : w.ownsRow 0 54 3 (.slice A l.length c) l.length (icells l) := ⟨h.1, h.2.imp_right fun ⟨g, cap, cur, a, b, r⟩ => ⟨g, cap, cur, a, Nat.zero_le _, r⟩⟩
  have hR := RowAt.of_owns h0
  refine ⟨hR.1, hR.2.1, fun j x hx => ?_⟩
  obtain ⟨g, o, hA, ⟨cur, hg⟩, r⟩ := hR.2.2 j x hx
  refine ⟨g, o, hA, ?_, ⟨cur, hg⟩, r⟩
  exact (h.lt g (by rw [hA]; rfl)).1

theorem item_cell (l : List Item) : ∀ u ∈ icells l, u.oneCell' = true := by
  intro u hu
  obtain ⟨x, _, hx⟩ := List.mem_flatMap.1 hu
  simp [Item.cells] at hx
  rcases hx with rfl | rfl | rfl <;> rfl

theorem news_of_row {w : World} {g : Nat} {l : List Item} (h : ∀ (j : Nat) (x : Item), l[j]? = some x → w.cell? ⟨g, j * 3, none⟩ = some (.int .i64 x.a) ∧ w.cell? ⟨g, j * 3 + 1, none⟩ = some (.int .i64 x.s) ∧ w.cell? ⟨g, j * 3 + 2, none⟩ = some (.int .i64 x.c)) :
    ∀ j u, (icells l)[j]? = some u → w.cell? ((⟨g, 0, none⟩ : Addr).add j) = some u := by
  intro j u hu
  have hadd : (⟨g, 0, none⟩ : Addr).add j = ⟨g, j, none⟩ := by unfold Addr.add; split <;> simp_all
  rw [hadd]
  have hl : j < (icells l).length := (List.getElem?_eq_some_iff.1 hu).1
  rw [icells_length] at hl
  obtain ⟨x, hx⟩ : ∃ x, l[j / 3]? = some x := ⟨_, List.getElem?_eq_getElem (by omega)⟩
  obtain ⟨h1, h2, h3⟩ := h _ x hx
  obtain ⟨k1, k2, k3⟩ := icells_get l _ x hx
  have : j = j / 3 * 3 ∨ j = j / 3 * 3 + 1 ∨ j = j / 3 * 3 + 2 := by omega
  rcases this with e | e | e
  · rw [e] at hu ⊢; rw [k1] at hu; injection hu with hu; rw [← hu]; exact h1
  · rw [e] at hu ⊢; rw [k2] at hu; injection hu with hu; rw [← hu]; exact h2
  · rw [e] at hu ⊢; rw [k3] at hu; injection hu with hu; rw [← hu]; exact h3

theorem add_block (g j : Nat) : ((⟨g, 0, none⟩ : Addr).add j).block = g := by unfold Addr.add; split <;> rfl

theorem value_of_owns {w : World} {base n : Nat} {v : Value} {xs : List Value} (h : w.ownsRow base 54 3 v n xs) : ∃ A c, v = .slice A n c := by
  rcases h.2 with ⟨rfl, h0⟩ | ⟨g, cap, cur, rfl, _⟩
  · exact ⟨none, 0, by rw [h0]⟩
  · exact ⟨_, _, rfl⟩

set_option maxHeartbeats 400000 in
theorem clone_ok (w : World) (A : Option Addr) (c : Nat) (l : List Item) (hl : l.length ≤ 200) (h : w.ownsRow 0 54 3 (.slice A l.length c) l.length (icells l)) :
    Calls Try.prog 30 #[.slice A l.length c] w fun e w' => (∃ A' c', e = .returned (.slice A' l.length c') ∧ w'.ownsRow w.heap.size 54 3 (.slice A' l.length c') l.length (icells l)) ∧ Below w.heap.size w w' := by
  have he := fun w a n c => Lib.run_eql_slice_nil (P := Try.prog) w 33 54 a n c 0 0 Try.underlying33
  obtain ⟨i0, z0, hi0, hz0, hz1, hz2, hz3⟩ := info_open item_info
  have hone := item_cell l
  have hlen := icells_length l
  rcases rowOpen h with ⟨h1, h2⟩ | ⟨g, cap, cur, h1, hlc, hcm, hg, hcs, hc⟩
  · injection h1 with h1 h3 h4
    subst h1 h2 h4
    go_enter Try.func30, Try.ntmps30
    go_wp2
    go_ret
    exact ⟨⟨none, 0, rfl, World.ownsRow_nil _ _ _ _⟩, Below.refl _ _⟩
  · injection h1 with h1 h3 h4
    subst h1 h4
    have hgl := lt_of_heap hg
    have hnews := news_of_row hc
    have hnews' : ∀ o j u, (icells l)[j]? = some u → (w.alloc o).cell? ((⟨g, 0, none⟩ : Addr).add j) = some u := fun o j u hu => (World.cell?_alloc_lt _ _ _ (by rw [add_block]; exact hgl)).trans (hnews j u hu)
    have HN := Lib.hid hnews'
    have HO := Lib.hid hone
    have HL := Lib.hid hlen
    have hown : ∀ (k : Nat), k = w.heap.size → (w.alloc (.cells #[] 54)).ownsRow w.heap.size 54 3 (.slice (some ⟨k, 0, none⟩) 0 0) 0 [] := fun k hk => by
      subst hk
      exact World.ownsRow_made w #[] 0 (Nat.le_refl _) (by simp [maxLen]) rfl
    have HW := Lib.hid hown
    clear h hc hg hcs hnews hnews' hone hlen hown
    generalize hL : l.length = L at *
    go_enter Try.func30, Try.ntmps30
    go_wp2_with (at_builtin; refine wpList_append_own _ rfl (.tmp 5) (.tmp 6) _ rfl w.heap.size 54 i0 z0 3 24 Try.underlying33 hi0 hz0 hz1 hz2 hz3 (by omega) (.slice (some ⟨w.heap.size, 0, none⟩) 0 0) 0 [] rfl (HW.out _ rfl) ⟨g, 0, none⟩ L c (icells l) rfl HL.out (HN.out _) HO.out (by unfold maxLen; omega) (by omega) (by simp) ?_; intro v' w1 hown1 hgrow1 _)
    have hv : ∃ A c, v' = .slice A L c := by have := value_of_owns hown1; simpa using this
    obtain ⟨A', c', hv⟩ := hv
    rw [hv] at hown1
    go_ret
    refine ⟨⟨A', c', by rw [hv]; rfl, by simpa using hown1⟩, ((Below.refl _ _).alloc (Nat.le_refl _) _).grown hgrow1 (by simp) (fun k hk => ?_)⟩
    simp [Value.ownBlock] at hk
    omega
end Ne
end Go.Proofs.Ytllmddhahpegmaa
