/- The table of areas: rows of rows. -/
import Derived.Test.YtionocafkaemiaaDoorJA19
namespace Go.Proofs.YtionocafkaemiaaDoor
open Go.RowKit
namespace Sx

/-- A row of the table. -/
def rowT (n : Nat) (f : Nat → Int) : List Value := ce enA ((List.range (n + 1)).map fun i => arOf (f i))
theorem rowT_len (n : Nat) (f : Nat → Int) : (rowT n f).length = (n + 1) * 2 := by unfold rowT; rw [ce_len ENA]; simp
theorem rowT_get {n : Nat} (f : Nat → Int) {i : Nat} (h : i ≤ n) : (rowT n f)[i * 2]? = some (.int .i64 (arOf (f i)).h) ∧ (rowT n f)[i * 2 + 1]? = some (.int .i64 (arOf (f i)).l) := by
  have hx : ((List.range (n + 1)).map fun i => arOf (f i))[i]? = some (arOf (f i)) := by
    rw [List.getElem?_map, List.getElem?_range (by omega)]; rfl
  have h0 := ce_get ENA hx (i := 0) (by omega)
  have h1 := ce_get ENA hx (i := 1) (by omega)
  exact ⟨h0, h1⟩
theorem rowT_set {n : Nat} (f : Nat → Int) {i : Nat} (h : i ≤ n) (x : Int) : ((rowT n f).set (i * 2) (.int .i64 (arOf x).h)).set (i * 2 + 1) (.int .i64 (arOf x).l) = rowT n (fun q => if q = i then x else f q) := by
  apply List.ext_getElem?
  intro t
  have hlen : ∀ g, (rowT n g).length = (n + 1) * 2 := rowT_len n
  by_cases ht : t < (n + 1) * 2
  · have hq : t / 2 ≤ n := by omega
    obtain ⟨a0, a1⟩ := rowT_get f hq
    obtain ⟨b0, b1⟩ := rowT_get (fun q => if q = i then x else f q) hq
    have hm : t = t / 2 * 2 ∨ t = t / 2 * 2 + 1 := by omega
    generalize t / 2 = q at *
    rcases hm with rfl | rfl
    · rw [b0, List.getElem?_set_ne (by omega)]
      by_cases e : q = i
      · subst e
        rw [List.getElem?_set_self (by rw [hlen]; omega)]; simp
      · rw [List.getElem?_set_ne (by omega), a0]; simp [e]
    · rw [b1]
      by_cases e : q = i
      · subst e
        rw [List.getElem?_set_self (by rw [List.length_set, hlen]; omega)]; simp
      · rw [List.getElem?_set_ne (by omega), List.getElem?_set_ne (by omega), a1]; simp [e]
  · rw [List.getElem?_eq_none (by rw [List.length_set, List.length_set, hlen]; omega), List.getElem?_eq_none (by rw [hlen]; omega)]
theorem rowT_congr {n : Nat} {f g : Nat → Int} (h : ∀ i, i ≤ n → f i = g i) : rowT n f = rowT n g := by
  unfold rowT
  congr 1
  apply List.map_congr_left
  intro i hi
  rw [h i (by have := List.mem_range.1 hi; omega)]
theorem rowT_none (n : Nat) : repC ⟨-1, 0⟩ (n + 1) (n + 1) = rowT n (fun _ => nonE) := by
  unfold repC rowT
  rw [Nat.sub_self, List.replicate_zero, List.append_nil, show (fun i : Nat => arOf ((fun _ : Nat => nonE) i)) = fun _ => (⟨-1, 0⟩ : Ar) from funext fun _ => arOf_none, List.map_const', List.length_range]
/-- The outer row: so many rows are made. -/
def outT (bs : Nat → Nat) (M n k : Nat) : List Value := (List.range (M + 1)).map fun m => if m < k then Value.slice (some ⟨bs m, 0, none⟩) (n + 1) (n + 1) else Value.slice none 0 0
theorem outT_len (bs : Nat → Nat) (M n k : Nat) : (outT bs M n k).length = M + 1 := by unfold outT; simp
theorem outT_get (bs : Nat → Nat) (M n k : Nat) {m : Nat} (h : m ≤ M) : (outT bs M n k)[m]? = some (if m < k then Value.slice (some ⟨bs m, 0, none⟩) (n + 1) (n + 1) else Value.slice none 0 0) := by
  unfold outT
  rw [List.getElem?_map, List.getElem?_range (by omega)]; rfl
structure TabK (w : World) (lo go : Nat) (bs : Nat → Nat) (M n k : Nat) (tab : Nat → Nat → Int) : Prop where
  out : w.heap[go]? = some (.cells (outT bs M n k).toArray 87 (0, 0))
  row : ∀ m, m < k → w.heap[bs m]? = some (.cells (rowT n (tab m)).toArray 31 (0, 0))
  inj : ∀ m m', m < k → m' < k → bs m = bs m' → m = m'
  ne : ∀ m, m < k → bs m ≠ go
  lo0 : lo ≤ go
  lo1 : ∀ m, m < k → lo ≤ bs m
theorem TabK.congr {w : World} {lo go : Nat} {bs : Nat → Nat} {M n k : Nat} {tab tab' : Nat → Nat → Int} (h : TabK w lo go bs M n k tab) (e : ∀ m, m < k → ∀ i, i ≤ n → tab m i = tab' m i) : TabK w lo go bs M n k tab' :=
  ⟨h.out, fun m hm => by rw [h.row m hm, rowT_congr (e m hm)], h.inj, h.ne, h.lo0, h.lo1⟩
theorem TabK.below {w w' : World} {lo go : Nat} {bs : Nat → Nat} {M n k : Nat} {tab : Nat → Nat → Int} (h : TabK w lo go bs M n k tab) (hb : Below w.heap.size w w') : TabK w' lo go bs M n k tab :=
  ⟨(hb.block _ (lt_of_heap h.out)).trans h.out, fun m hm => (hb.block _ (lt_of_heap (h.row m hm))).trans (h.row m hm), h.inj, h.ne, h.lo0, h.lo1⟩
theorem TabK.sl {w : World} {lo go : Nat} {bs : Nat → Nat} {M n k : Nat} {tab : Nat → Nat → Int} (h : TabK w lo go bs M n k tab) {m : Nat} (hm : m < k) (hM : m ≤ M) : w.cell? ⟨go, m, none⟩ = some (.slice (some ⟨bs m, 0, none⟩) (n + 1) (n + 1)) ∧ go < w.heap.size := by
  refine ⟨?_, lt_of_heap h.out⟩
  rw [cell_of_row _ _ _ _ _ _ h.out, List.getElem?_toArray, outT_get _ _ _ _ hM, if_pos hm]
theorem TabK.val {w : World} {lo go : Nat} {bs : Nat → Nat} {M n k : Nat} {tab : Nat → Nat → Int} (h : TabK w lo go bs M n k tab) {m i : Nat} (hm : m < k) (hi : i ≤ n) :
    w.cell? ⟨bs m, i * 2, none⟩ = some (.int .i64 (arOf (tab m i)).h) ∧ w.cell? ⟨bs m, i * 2 + 1, none⟩ = some (.int .i64 (arOf (tab m i)).l) ∧ bs m < w.heap.size := by
  have hr := h.row m hm
  obtain ⟨a, b⟩ := rowT_get (tab m) hi
  exact ⟨by rw [cell_of_row _ _ _ _ _ _ hr, List.getElem?_toArray]; exact a, by rw [cell_of_row _ _ _ _ _ _ hr, List.getElem?_toArray]; exact b, lt_of_heap hr⟩
theorem TabK.frozen {w : World} {lo go : Nat} {bs : Nat → Nat} {M n k : Nat} {tab : Nat → Nat → Int} (h : TabK w lo go bs M n k tab) {m : Nat} (hm : m < k) (j : Nat) : w.frozen? ⟨bs m, j, none⟩ = false := by simp [World.frozen?, h.row m hm]
theorem TabK.ofrozen {w : World} {lo go : Nat} {bs : Nat → Nat} {M n k : Nat} {tab : Nat → Nat → Int} (h : TabK w lo go bs M n k tab) (j : Nat) : w.frozen? ⟨go, j, none⟩ = false := by simp [World.frozen?, h.out]
/-- An area is written. -/
theorem TabK.set {w : World} {lo go : Nat} {bs : Nat → Nat} {M n k : Nat} {tab : Nat → Nat → Int} (h : TabK w lo go bs M n k tab) {m i : Nat} (hm : m < k) (hi : i ≤ n) (x : Int) :
    TabK ((w.setCell ⟨bs m, i * 2, none⟩ (.int .i64 (arOf x).h)).setCell ⟨bs m, i * 2 + 1, none⟩ (.int .i64 (arOf x).l)) lo go bs M n k (fun r q => if r = m ∧ q = i then x else tab r q) := by
  have hr := h.row m hm
  have h1 : (w.setCell ⟨bs m, i * 2, none⟩ (.int .i64 (arOf x).h)).heap[bs m]? = some (.cells ((rowT n (tab m)).toArray.setIfInBounds (i * 2) (.int .i64 (arOf x).h)) 31 (0, 0)) := setCell_at _ _ _ _ _ _ hr
  have h2 : ((w.setCell ⟨bs m, i * 2, none⟩ (.int .i64 (arOf x).h)).setCell ⟨bs m, i * 2 + 1, none⟩ (.int .i64 (arOf x).l)).heap[bs m]? = some (.cells (((rowT n (tab m)).toArray.setIfInBounds (i * 2) (.int .i64 (arOf x).h)).setIfInBounds (i * 2 + 1) (.int .i64 (arOf x).l)) 31 (0, 0)) := setCell_at _ _ _ _ _ _ h1
  have e : ((rowT n (tab m)).toArray.setIfInBounds (i * 2) (.int .i64 (arOf x).h)).setIfInBounds (i * 2 + 1) (.int .i64 (arOf x).l) = (rowT n (fun q => if q = i then x else tab m q)).toArray := by
    rw [← rowT_set (tab m) hi x]; simp
  rw [e] at h2
  refine ⟨?_, fun r hrk => ?_, h.inj, h.ne, h.lo0, h.lo1⟩
  · rw [setCell_far _ _ _ _ (by show go ≠ bs m; exact (h.ne m hm).symm), setCell_far _ _ _ _ (by show go ≠ bs m; exact (h.ne m hm).symm)]
    exact h.out
  · by_cases e : r = m
    · subst e
      rw [h2]
      rw [rowT_congr (f := fun q => if q = i then x else tab r q) (g := fun q => if r = r ∧ q = i then x else tab r q) fun q _ => by simp]
    · have hne : bs r ≠ bs m := fun hh => e (h.inj r m hrk hm hh)
      rw [setCell_far _ _ _ _ hne, setCell_far _ _ _ _ hne, h.row r hrk]
      rw [rowT_congr (f := tab r) (g := fun q => if r = m ∧ q = i then x else tab r q) fun q _ => by simp [e]]
/-- One block more. -/
def pushB (bs : Nat → Nat) (k G : Nat) : Nat → Nat := fun m => if m = k then G else bs m
/-- A row is laid into the outer one. -/
theorem TabK.push {w : World} {lo go G : Nat} {bs : Nat → Nat} {M n k : Nat} (h : TabK w lo go bs M n k (fun _ _ => nonE)) (hk : k ≤ M) (hG : w.heap[G]? = some (.cells (repC ⟨-1, 0⟩ (n + 1) (n + 1)).toArray 31 (0, 0)))
    (h1 : G ≠ go) (h2 : ∀ m, m < k → bs m ≠ G) (h3 : lo ≤ G) : TabK (w.setCell ⟨go, k, none⟩ (.slice (some ⟨G, 0, none⟩) (n + 1) (n + 1))) lo go (pushB bs k G) M n (k + 1) (fun _ _ => nonE) := by
  have hb : ∀ m, m < k → pushB bs k G m = bs m := fun m hm => by unfold pushB; rw [if_neg (by omega)]
  have hb2 : pushB bs k G k = G := by unfold pushB; rw [if_pos rfl]
  have hlt : ∀ m, m < k + 1 → m < k ∨ m = k := fun m hm => by omega
  refine ⟨?_, fun m hm => ?_, fun m m' hm hm' e => ?_, fun m hm => ?_, h.lo0, fun m hm => ?_⟩
  · have h5 : (w.setCell ⟨go, k, none⟩ (.slice (some ⟨G, 0, none⟩) (n + 1) (n + 1))).heap[go]? = some (.cells ((outT bs M n k).toArray.setIfInBounds k (.slice (some ⟨G, 0, none⟩) (n + 1) (n + 1))) 87 (0, 0)) := setCell_at _ _ _ _ _ _ h.out
    rw [h5]
    have e : (outT bs M n k).toArray.setIfInBounds k (.slice (some ⟨G, 0, none⟩) (n + 1) (n + 1)) = (outT (pushB bs k G) M n (k + 1)).toArray := by
      rw [List.setIfInBounds_toArray]
      congr 1
      apply List.ext_getElem?
      intro t
      by_cases ht : t ≤ M
      · rw [outT_get _ _ _ _ ht]
        by_cases e : t = k
        · subst e
          rw [List.getElem?_set_self (by rw [outT_len]; omega), if_pos (by omega), hb2]
        · rw [List.getElem?_set_ne (fun h => e h.symm), outT_get _ _ _ _ ht]
          by_cases h6 : t < k
          · rw [if_pos h6, if_pos (by omega), hb t h6]
          · rw [if_neg h6, if_neg (by omega)]
      · rw [List.getElem?_eq_none (by rw [List.length_set, outT_len]; omega), List.getElem?_eq_none (by rw [outT_len]; omega)]
    rw [e]
  · rcases hlt m hm with h6 | rfl
    · rw [hb m h6, setCell_far _ _ _ _ (by show bs m ≠ go; exact h.ne m h6)]
      exact h.row m h6
    · rw [hb2, setCell_far _ _ _ _ (by show G ≠ go; exact h1), hG, rowT_none]
  · rcases hlt m hm with h6 | rfl <;> rcases hlt m' hm' with h7 | rfl
    · rw [hb m h6, hb m' h7] at e; exact h.inj m m' h6 h7 e
    · rw [hb m h6, hb2] at e; exact absurd e (h2 m h6)
    · rw [hb m' h7, hb2] at e; exact absurd e.symm (h2 m' h7)
    · rfl
  · rcases hlt m hm with h6 | rfl
    · rw [hb m h6]; exact h.ne m h6
    · rw [hb2]; exact h1
  · rcases hlt m hm with h6 | rfl
    · rw [hb m h6]; exact h.lo1 m h6
    · rw [hb2]; exact h3
theorem rows_row : (Tryd.prog.info? 87).map (fun i => (i.zero, i.size, i.bytes)) = some (some (.slice none 0 0), 1, 24) := by kernel_rfl
theorem make_rows (w : World) (bs : Nat → Nat) (M n : Nat) (hn : M + 1 ≤ 100000) :
    (Instr.makeSlice 86 (.int .i64 ((M : Int) + 1)) (.int .i64 ((M : Int) + 1))).run Tryd.prog w = .ok (.slice (some ⟨w.heap.size, 0, none⟩) (M + 1) (M + 1)) (w.alloc (.cells (outT bs M n 0).toArray 87)) := by
  obtain ⟨i0, hi, h0, h1, h2⟩ := info_parts rows_row
  have := run_make (P := Tryd.prog) w 86 87 i0 (.slice none 0 0) Tryd.underlying86 hi h0 .i64 .i64 ((M + 1 : Nat) : Int) ((M + 1 : Nat) : Int) (by omega) (by omega) (by rw [h2]; omega) (by omega)
  have e : ((M + 1 : Nat) : Int) = (M : Int) + 1 := by omega
  rw [← e, this]
  have hm : madeCells (Value.slice none 0 0).cells ((M + 1) * i0.size) = (outT bs M n 0).toArray := by
    rw [h1, Nat.mul_one]
    apply Array.ext
    · simp [size_madeCells, outT_len]
    · intro j h3 h4
      have h5 : j < M + 1 := by simpa [size_madeCells] using h3
      simp [madeCells, Value.cells, outT, Nat.mod_one]
  simp only [Int.toNat_natCast]
  rw [hm]
end Sx
end Go.Proofs.YtionocafkaemiaaDoor
