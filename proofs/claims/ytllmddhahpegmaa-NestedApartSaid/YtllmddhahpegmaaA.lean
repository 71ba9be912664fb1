/- The walks of the tree's small methods: find, end, give. -/
import Derived.Test.YtllmddhahpegmaaRows
import Derived.Test.YtllmddhahpegmaaHeap
import Derived.WalkSpells
import Derived.WalkLawsBesides
import Derived.Deep.QuietTactic
import Derived.BigQuiet
namespace Go.Proofs.Ytllmddhahpegmaa
open Go.RowKit
namespace Ne

theorem rowOpen {w : World} {v : Value} {l : List Item} (h : w.ownsRow 0 54 3 v l.length (icells l)) :
    (v = .slice none 0 0 ∧ l = []) ∨ ∃ g cap cur, v = .slice (some ⟨g, 0, none⟩) l.length cap ∧ l.length ≤ cap ∧ cap ≤ maxLen ∧ w.heap[g]? = some (.cells cur 54 (0, 0)) ∧ cur.size = cap * 3 ∧
      ∀ j x, l[j]? = some x → w.cell? ⟨g, j * 3, none⟩ = some (.int .i64 x.a) ∧ w.cell? ⟨g, j * 3 + 1, none⟩ = some (.int .i64 x.s) ∧ w.cell? ⟨g, j * 3 + 2, none⟩ = some (.int .i64 x.c) := by
  rcases h.2 with ⟨rfl, hl⟩ | ⟨g, cap, cur, rfl, _, hg, hlc, hcm, hcs, htake⟩
  · exact .inl ⟨rfl, List.eq_nil_of_length_eq_zero hl⟩
  · refine .inr ⟨g, cap, cur, rfl, hlc, hcm, hg, hcs, fun j x hx => ?_⟩
    have hj : j < l.length := (List.getElem?_eq_some_iff.1 hx).1
    obtain ⟨h1, h2, h3⟩ := icells_get l j x hx
    rw [← htake] at h1 h2 h3
    rw [cell_of_row w g _ cur _ _ hg, cell_of_row w g _ cur _ _ hg, cell_of_row w g _ cur _ _ hg]
    rw [List.getElem?_take] at h1 h2 h3
    refine ⟨?_, ?_, ?_⟩
    · split at h1 <;> simp_all
    · split at h2 <;> simp_all
    · split at h3 <;> simp_all

/-- The cells of an arena's block. -/
theorem nodeOpen {w : World} {b : Nat} {n : Node} {v : Value} (h : w.heap[b]? = some (NodeCells n v)) :
    w.cell? ⟨b, 0, none⟩ = some (.int .i64 n.p) ∧ w.cell? ⟨b, 1, none⟩ = some (.int .i64 n.a) ∧ w.cell? ⟨b, 2, none⟩ = some (.int .i64 n.s) ∧ w.cell? ⟨b, 3, none⟩ = some v ∧ w.cell? ⟨b, 4, none⟩ = some (.bool false) ∧ ∀ o, w.frozen? ⟨b, o, none⟩ = false := by
  simp [NodeCells] at h
  refine ⟨?_, ?_, ?_, ?_, ?_, ?_⟩ <;> simp [World.cell?, World.frozen?, h]

set_option maxHeartbeats 400000 in
theorem made_nil (w : World) :
    Calls Try.prog 29 #[.pointer none] w fun e w' => e = .returned (.bool false) ∧ w = w' := by
  go_enter Try.func29, Try.ntmps29
  go_wp2
  go_ret
  exact ⟨rfl, rfl⟩
set_option maxHeartbeats 400000 in
theorem made_ok (w : World) (b : Nat) (A : Option Addr) (m c : Nat) (hm : 0 < m) (h : w.cell? ⟨b, 0, none⟩ = some (.slice A m c)) :
    Calls Try.prog 29 #[.pointer (some ⟨b, 0, none⟩)] w fun e w' => e = .returned (.bool true) ∧ w = w' := by
  go_enter Try.func29, Try.ntmps29
  go_wp2
  go_ret
  exact ⟨rfl, rfl⟩
set_option maxHeartbeats 400000 in
theorem find_in (w : World) (b g : Nat) (m c : Nat) (i : Int) (x : Option Addr) (h0 : 0 ≤ i) (hi : i < m) (hm : m ≤ 64) (h : w.cell? ⟨b, 0, none⟩ = some (.slice (some ⟨g, 0, none⟩) m c)) (hx : w.cell? ⟨g, i.toNat, none⟩ = some (.pointer x)) :
    Calls Try.prog 37 #[.pointer (some ⟨b, 0, none⟩), .int .i64 i] w fun e w' => e = .returned (.tuple #[.pointer x, .int .i64 (if x = none then 4 else 0)]) ∧ w = w' := by
  obtain ⟨j, rfl⟩ := Int.eq_ofNat_of_zero_le h0
  rw [Int.toNat_natCast] at hx
  cases x
  all_goals
    go_enter Try.func37, Try.ntmps37
    go_wp2_with (go_at_call 29; refine (made_ok _ _ _ _ _ (by omega) h).mono ?_; rintro e w' ⟨rfl, rfl⟩)
    go_ret2
    exact ⟨rfl, rfl⟩
set_option maxHeartbeats 400000 in
theorem find_out (w : World) (b g : Nat) (m c : Nat) (i : Int) (hi : i < 0 ∨ m ≤ i) (hm : 0 < m ∧ m ≤ 64) (h : w.cell? ⟨b, 0, none⟩ = some (.slice (some ⟨g, 0, none⟩) m c)) :
    Calls Try.prog 37 #[.pointer (some ⟨b, 0, none⟩), .int .i64 i] w fun e w' => e = .returned (.tuple #[.pointer none, .int .i64 4]) ∧ w = w' := by
  by_cases h0 : i < 0
  all_goals
    go_enter Try.func37, Try.ntmps37
    go_wp2_with (go_at_call 29; refine (made_ok _ _ _ _ _ (by omega) h).mono ?_; rintro e w' ⟨rfl, rfl⟩)
    go_ret2
    exact ⟨rfl, rfl⟩
set_option maxHeartbeats 400000 in
theorem find_nil (w : World) (i : Int) :
    Calls Try.prog 37 #[.pointer none, .int .i64 i] w fun e w' => e = .returned (.tuple #[.pointer none, .int .i64 1]) ∧ w = w' := by
  go_enter Try.func37, Try.ntmps37
  go_wp2_with (go_at_call 29; refine (made_nil _).mono ?_; rintro e w' ⟨rfl, rfl⟩)
  go_ret2
  exact ⟨rfl, rfl⟩

/-- What find returns of a tree: the block of the arena, or none. -/
def Found (w : World) (own : Nat → Option Nat) (cs : Array Value) (M : Tr) (i : Int) (e : Ending) : Prop :=
  (find M i = none ∧ e = .returned (.tuple #[.pointer none, .int .i64 4])) ∨
  ∃ n b iv, find M i = some n ∧ 0 ≤ i ∧ M[i.toNat]? = some (some n) ∧ cs[i.toNat]? = some (.pointer (some ⟨b, 0, none⟩)) ∧ own b = some (2 * i.toNat + 2) ∧ w.heap[b]? = some (NodeCells n iv) ∧ ItemsAt w own i.toNat iv n.l ∧
    e = .returned (.tuple #[.pointer (some ⟨b, 0, none⟩), .int .i64 0])

theorem find_tree (w : World) (own : Nat → Option Nat) (t g cap : Nat) (cs : Array Value) (M : Tr) (i : Int) (h : TreeAt w own t g cap cs M) (hm : 0 < M.length ∧ M.length ≤ 64) :
    Calls Try.prog 37 #[.pointer (some ⟨t, 0, none⟩), .int .i64 i] w fun e w' => Found w own cs M i e ∧ w = w' := by
  have ht : w.cell? ⟨t, 0, none⟩ = some (.slice (some ⟨g, 0, none⟩) M.length cap) := by simp [World.cell?, h.top]
  by_cases hi : i < 0 ∨ (M.length : Int) ≤ i
  · refine (find_out w t g M.length cap i hi hm ht).mono ?_
    rintro e w' ⟨rfl, rfl⟩
    refine ⟨.inl ⟨?_, rfl⟩, rfl⟩
    unfold find
    split
    · rfl
    · rw [List.getElem?_eq_none (by omega)]; rfl
  · have h0 : ¬ i < 0 := fun x => hi (.inl x)
    have hlt : i.toNat < M.length := by omega
    obtain ⟨o, ho⟩ : ∃ o, M[i.toNat]? = some o := ⟨_, List.getElem?_eq_getElem hlt⟩
    obtain ⟨v, hv, hn⟩ := h.node _ _ ho
    have hf : find M i = o := by unfold find; rw [if_neg h0, ho]; rfl
    cases o with
    | none =>
      have hn' : v = .pointer none := hn
      subst hn'
      refine (find_in w t g M.length cap i none (by omega) (by omega) hm.2 ht (by rw [cell_of_row w g _ cs _ _ h.row, hv])).mono ?_
      rintro e w' ⟨rfl, rfl⟩
      exact ⟨.inl ⟨hf, rfl⟩, rfl⟩
    | some n =>
      obtain ⟨b, iv, rfl, hob, hb, hl⟩ := hn
      refine (find_in w t g M.length cap i _ (by omega) (by omega) hm.2 ht (by rw [cell_of_row w g _ cs _ _ h.row, hv])).mono ?_
      rintro e w' ⟨rfl, rfl⟩
      exact ⟨.inr ⟨n, b, iv, hf, by omega, ho, hv, hob, hb, hl, rfl⟩, rfl⟩

/-- Every item lies so that sums stay small. -/
def Small (l : List Item) : Prop := ∀ x ∈ l, 0 ≤ x.a ∧ 0 ≤ x.s ∧ x.a + x.s ≤ 65536

set_option maxHeartbeats 400000 in
theorem end_ok (w : World) (b : Nat) (n : Node) (v : Value) (h : w.heap[b]? = some (NodeCells n v)) (hr : w.ownsRow 0 54 3 v n.l.length (icells n.l)) (hs : Small n.l) (hl : n.l.length ≤ 200) :
    Calls Try.prog 42 #[.pointer (some ⟨b, 0, none⟩)] w fun e w' => e = .returned (.int .i64 n.fin) ∧ ∃ k, w' = w.drewN k := by
  obtain ⟨c0, c1, c2, c3, c4, _⟩ := nodeOpen h
  rcases rowOpen hr with ⟨rfl, hn⟩ | ⟨g, cap, cur, rfl, hlc, hcm, hg, hcs, hc⟩
  · have hf : n.fin = n.a := by simp [Node.fin, hn]
    rw [hf]
    clear hr hs hf
    go_enter Try.func42, Try.ntmps42
    go_wp2
    go_ret
    exact ⟨rfl, 0, rfl⟩
  · by_cases hn : n.l = []
    · have hf : n.fin = n.a := by simp [Node.fin, hn]
      rw [hn] at c3
      rw [hf]
      clear hr hs hf hc
      go_enter Try.func42, Try.ntmps42
      go_wp2
      go_ret
      exact ⟨rfl, 0, rfl⟩
    · have hp : 0 < n.l.length := List.length_pos_iff.2 hn
      obtain ⟨x, hx⟩ : ∃ x, n.l[n.l.length - 1]? = some x := ⟨_, List.getElem?_eq_getElem (by omega)⟩
      have hf : n.fin = x.a + x.s := by simp [Node.fin, List.getLast?_eq_getElem?, hx]
      obtain ⟨h1, h2, h3⟩ := hc _ _ hx
      obtain ⟨b1, b2, b3⟩ := hs x (List.mem_of_getElem? hx)
      rw [hf]
      generalize hL : n.l.length = L at *
      clear hr hs hf hc hL hx hg hcs h3 hn
      unfold maxLen at hcm
      go_enter Try.func42, Try.ntmps42
      go_wp2
      go_quiet (fail)
      go_wp2
      go_ret
      exact ⟨rfl, _, rfl⟩
end Ne
end Go.Proofs.Ytllmddhahpegmaa
