/- The program: the queue of the pages that wait, at an offset in its row. -/
import Derived.Test.YtnkkhbmbbkmfhaaJA15
import Derived.Deep.AppendSrc
namespace Go.Proofs.Ytnkkhbmbbkmfhaa
open Go.Shelf Go.RowKit Go.Sort Go.Lib
namespace Py

/-- A queue: its cells lie from an offset on in a block of one's own. -/
def QAt (w : World) (B : Nat) (A : Option Addr) (c : Nat) (H : List Wt) : Prop :=
  (A = none ∧ c = 0 ∧ H = []) ∨ ∃ (g o : Nat), A = some ⟨g, o, none⟩ ∧ B ≤ g ∧ g < w.heap.size ∧ (∀ j, j < c * 2 → (w.cell? ⟨g, o + j, none⟩).isSome = true ∧ w.frozen? ⟨g, o + j, none⟩ = false) ∧ H.length ≤ c ∧ c ≤ maxLen ∧ ∀ t v, (ce ewt H)[t]? = some v → w.cell? ⟨g, o + t, none⟩ = some v
theorem qat_nil (w : World) (B : Nat) : QAt w B none 0 [] := .inl ⟨rfl, rfl, rfl⟩
theorem QAt.eat {w : World} {B c : Nat} {A : Option Addr} {H : List Wt} (h : QAt w B A c H) : EAt ewt 2 w A c H := by
  rcases h with ⟨rfl, rfl, rfl⟩ | ⟨g, o, rfl, hB, hg, hs, hl, hc, hat⟩
  · exact eat_nil w
  · refine ⟨hl, hc, fun j x hx => ⟨g, o, rfl, hg, fun i v hi hv => ?_⟩⟩
    rw [Nat.add_assoc]
    exact hat _ _ ((ce_get EWT hx hi).trans hv)
theorem frz_blk {w w' : World} {a : Addr} (h : w'.heap[a.block]? = w.heap[a.block]?) : w'.frozen? a = w.frozen? a := by unfold World.frozen?; rw [h]
theorem cel_blk {w w' : World} {a : Addr} (h : w'.heap[a.block]? = w.heap[a.block]?) : w'.cell? a = w.cell? a := by unfold World.cell?; rw [h]
theorem QAt.below {w w' : World} {B c : Nat} {A : Option Addr} {H : List Wt} (h : QAt w B A c H) (hb : Below w.heap.size w w') : QAt w' B A c H := by
  rcases h with h | ⟨g, o, rfl, hB, hg, hs, hl, hc, hat⟩
  · exact .inl h
  · have e := hb.block g hg
    exact .inr ⟨g, o, rfl, hB, Nat.lt_of_lt_of_le hg hb.size, fun j hj => by rw [cel_blk (a := ⟨g, o + j, none⟩) e, frz_blk (a := ⟨g, o + j, none⟩) e]; exact hs j hj, hl, hc, fun t v hv => by rw [cel_blk (a := ⟨g, o + t, none⟩) e]; exact hat t v hv⟩
theorem QAt.drew {w : World} {B c : Nat} {A : Option Addr} {H : List Wt} (h : QAt w B A c H) (q : Nat) : QAt (w.drewN q) B A c H := h
theorem QAt.blk {w : World} {B c : Nat} {A : Option Addr} {H : List Wt} (h : QAt w B A c H) : ∀ g, A.map (·.block) = some g → B ≤ g ∧ g < w.heap.size := by
  rcases h with ⟨rfl, _, _⟩ | ⟨g, o, rfl, hB, hg, _⟩
  · intro g e; cases e
  · intro g' e; injection e with e; subst e; exact ⟨hB, hg⟩
/-- The first page goes. -/
theorem QAt.pop {w : World} {B c g o : Nat} {x : Wt} {H : List Wt} (h : QAt w B (some ⟨g, o, none⟩) c (x :: H)) : QAt w B (some ⟨g, o + 2, none⟩) (c - 1) H ∧ (c = 1 → QAt w B (some ⟨g, o, none⟩) 0 H) := by
  rcases h with ⟨h, _⟩ | ⟨g', o', e, hB, hg, hs, hl, hc, hat⟩
  · cases h
  · injection e with e; injection e with e1 e2 _
    subst e1; subst e2
    rw [List.length_cons] at hl
    refine ⟨.inr ⟨g, o + 2, rfl, hB, hg, fun j hj => by rw [Nat.add_assoc]; exact hs (2 + j) (by omega), by omega, by omega, fun t v hv => ?_⟩, fun hc1 => ?_⟩
    · have := hat (2 + t) v (by
        show (ewt x ++ ce ewt H)[2 + t]? = _
        rw [List.getElem?_append_right (by simp [ewt])]
        simpa [ewt] using hv)
      rwa [Nat.add_assoc]
    · subst hc1
      obtain rfl : H = [] := List.length_eq_zero_iff.1 (by omega)
      exact .inr ⟨g, o, rfl, hB, hg, fun j hj => by omega, Nat.le_refl _, Nat.zero_le _, fun t v hv => by simp [ce] at hv⟩
theorem sc_far (g k : Nat) (hk : k ≠ g) : ∀ (vs : List Value) (o : Nat) (w : World), (w.setCells g o vs).heap[k]? = w.heap[k]?
  | [], _, _ => rfl
  | v :: r, o, w => by rw [World.setCells, sc_far g k hk r (o + 1) _, setCell_far _ _ _ _ hk]
theorem sc_size (g : Nat) : ∀ (vs : List Value) (o : Nat) (w : World), (w.setCells g o vs).heap.size = w.heap.size
  | [], _, _ => rfl
  | v :: r, o, w => by rw [World.setCells, sc_size g r (o + 1) _, setCell_size]
theorem sc_below {B g : Nat} (hg : B ≤ g) : ∀ (vs : List Value) (o : Nat) (w : World), Below B w (w.setCells g o vs)
  | [], _, _w => Below.refl _ _
  | v :: r, o, w => ((Below.refl B w).setCell hg v).trans (sc_below hg r (o + 1) _)
theorem wait_info : (Try.prog.info? 103).map (fun i => (i.zero.isSome, i.zero.map (fun z => z.cells.size), i.size, i.bytes)) = some (true, some 2, 2, 16) := by kernel_rfl
theorem ce_lt {H : List Wt} {t : Nat} {v : Value} (h : (ce ewt H)[t]? = some v) : t < H.length * 2 := by
  have := (List.getElem?_eq_some_iff.1 h).1
  rwa [ce_len EWT] at this
/-- One page more: the run of append. -/
theorem run_push {w : World} {B c : Nat} {A : Option Addr} {H : List Wt} (h : QAt w B A c H) (hB : B ≤ w.heap.size) (hl : H.length ≤ 100000) (ad : Addr) (cc : Nat) (x : Wt) (hx : EAt ewt 2 w (some ad) cc [x]) :
    ∃ A' c' w', (∀ ty, (Builtin.append_ #[100, 100] ty #[.slice A H.length c, .slice (some ad) 1 cc]).run Try.prog w = .ok (.slice A' (H.length + 1) c') w') ∧ QAt w' B A' c' (H ++ [x]) ∧ Below B w w' ∧ (∀ k, k < w.heap.size → A.map (·.block) ≠ some k → w'.heap[k]? = w.heap[k]?) := by
  obtain ⟨i, z, hi, hz, hsz, hby, hzs⟩ := info_open wait_info
  have hone := EWT.one
  have hxad : ∀ j u, (ewt x)[j]? = some u → w.cell? (ad.add j) = some u := fun j u hu => hx.addr EWT j u (by unfold ce; simpa using hu)
  have hsrc : Src Try.prog i.size 100 (.slice (some ad) 1 cc) 1 (ewt x) w := Src.ofSlice w Try.underlying100 ad 1 cc (ewt x) (by rw [hsz]; rfl) hxad (hone x)
  have hcl : ∀ L : List Wt, (ce ewt L).length = L.length * 2 := ce_len EWT
  have hadd : ce ewt (H ++ [x]) = ce ewt H ++ ewt x := by rw [ce_add]; unfold ce; simp
  by_cases hr : H.length + 1 ≤ c
  · rcases h with ⟨_, h0, _⟩ | ⟨g, o, rfl, hB', hg, hs, hl', hc, hat⟩
    · omega
    · have hrun := fun ty => run_append_room_src (P := Try.prog) w 100 100 ty 103 i Try.underlying100 hi g o H.length c (.slice (some ad) 1 cc) 1 (ewt x) hsrc hr (fun j hj => by
        rw [hsz, Nat.add_assoc]; exact (hs _ (by simp [ewt] at hj; omega)).1) (fun j hj => by rw [hsz, Nat.add_assoc]; exact (hs _ (by simp [ewt] at hj; omega)).2)
      rw [hsz] at hrun
      refine ⟨some ⟨g, o, none⟩, c, _, hrun, .inr ⟨g, o, rfl, hB', by rw [sc_size]; exact hg, fun j hj => ⟨?_, ?_⟩, by simp; omega, hc, fun t v hv => ?_⟩, sc_below hB' _ _ _, fun k hk hne => sc_far g k (by rintro rfl; simp at hne) _ _ _⟩
      · exact World.isSome_setCells g _ _ _ _ (hs j hj).1
      · rw [World.frozen?_setCells]; exact (hs j hj).2
      · rw [hadd] at hv
        by_cases ht : t < H.length * 2
        · rw [List.getElem?_append_left (by rw [hcl]; exact ht)] at hv
          rw [World.cell?_setCells_out _ _ _ _ _ (fun _ _ => by left; dsimp only; omega)]
          exact hat t v hv
        · rw [List.getElem?_append_right (by rw [hcl]; omega), hcl] at hv
          have h9 := World.cell?_setCells_in g (ewt x) (o + H.length * 2) w (fun j hj => by rw [Nat.add_assoc]; exact (hs _ (by simp [ewt] at hj; omega)).1) (t - H.length * 2) (List.getElem?_eq_some_iff.1 hv).1
          rw [show o + t = o + H.length * 2 + (t - H.length * 2) by omega, h9]
          exact (List.getElem?_eq_getElem _).symm.trans hv
  · have hcl2 : H.length = c := by
      rcases h with ⟨_, h0, h1⟩ | ⟨g, o, _, _, _, _, h2, _⟩
      · rw [h1, h0]; rfl
      · omega
    have hea := h.eat
    have hold : (Builtin.firstCells i.size H.length (.slice A H.length c)).run Try.prog w.drew = .ok (ce ewt H).toArray w.drew := by
      cases A with
      | none =>
        have : H = [] := by rcases h with ⟨_, _, h1⟩ | ⟨g, o, e, _⟩; exact h1; cases e
        subst this
        exact run_firstCells_none _ _ _ _ _
      | some a => exact run_firstCells_some _ _ _ _ _ _ _ (by rw [hcl, hsz]) (fun j v hv => hea.addr EWT j v hv)
    have hns := nextslicecap_le (need := H.length + 1) (old := c) (by omega)
    have hrun := fun ty => run_append_grow_src (P := Try.prog) w 100 100 ty 103 i z Try.underlying100 hi hz A H.length c (ce ewt H) hold (.slice (some ad) 1 cc) 1 (ewt x) hsrc (by omega) (by omega) (by rw [hby]; omega)
    rw [← hadd] at hrun
    generalize hgc : grownCap w (H.length + 1) c 103 = gc at *
    have hge : H.length + 1 ≤ gc := by rw [← hgc]; exact grownCap_ge _ _ _ _
    have hgm : gc ≤ maxLen := by rw [← hgc]; exact grownCap_le_maxLen _ _ _ _ (by unfold maxLen; omega)
    obtain ⟨cur, hcur⟩ : ∃ cur, cur = (ce ewt (H ++ [x])).toArray ++ Builtin.zeroCells z.cells (gc - (H.length + 1)) := ⟨_, rfl⟩
    rw [← hcur] at hrun
    have hcs : cur.size = gc * 2 := by
      rw [hcur, Array.size_append, List.size_toArray, hcl, List.length_append, List.length_singleton]
      simp [Builtin.zeroCells, hzs]
      omega
    have hnew : (w.drew.alloc (.cells cur 103)).heap[w.heap.size]? = some (.cells cur 103 (0, 0)) := by
      show (w.drew.alloc _).heap[w.drew.heap.size]? = _
      rw [heapAlloc, if_pos rfl]
    refine ⟨some ⟨w.heap.size, 0, none⟩, gc, _, hrun, .inr ⟨w.heap.size, 0, rfl, hB, by simp, fun j hj => ⟨?_, ?_⟩, by simp; omega, hgm, fun t v hv => ?_⟩, (below_drew (Below.refl _ _)).alloc hB _, fun k hk _ => alloc_old w.drew _ k hk⟩
    · rw [cell_of_row _ _ _ _ _ _ hnew, Nat.zero_add, Array.getElem?_eq_getElem (by omega)]; rfl
    · unfold World.frozen?; dsimp only; rw [hnew]; simp
    · rw [cell_of_row _ _ _ _ _ _ hnew, Nat.zero_add, hcur, Array.getElem?_append_left (by have := (List.getElem?_eq_some_iff.1 hv).1; simpa using this)]
      simpa using hv
end Py
end Go.Proofs.Ytnkkhbmbbkmfhaa
