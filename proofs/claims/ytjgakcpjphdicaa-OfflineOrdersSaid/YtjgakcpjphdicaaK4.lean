/- The specification: free. Plain: the specification's way to the least free address. -/
import Derived.Test.YtjgakcpjphdicaaK3
import Derived.Shelf.SlSortCmp.QuietGrown
import Derived.Test.YtjgakcpjphdicaaK2
namespace Go.Proofs.Ytjgakcpjphdicaa
open Go.RowKit Go.Sort
namespace Of

/-- A block of truth values, written in place. -/
def RowB (T : TypeId) (w : World) (g : Nat) (B : List Bool) : Prop := ∃ cs : Array Value, w.heap[g]? = some (.cells cs T (0, 0)) ∧ cs.toList = B.map .bool
theorem RowB.lt {T : TypeId} {w : World} {g : Nat} {B : List Bool} (h : RowB T w g B) : g < w.heap.size := by
  obtain ⟨cs, h1, _⟩ := h; exact lt_of_heap h1
theorem RowB.keep {T : TypeId} {w w' : World} {g : Nat} {B : List Bool} (h : RowB T w g B) (hk : w'.heap[g]? = w.heap[g]?) : RowB T w' g B := by
  obtain ⟨cs, h1, h2⟩ := h; exact ⟨cs, hk.trans h1, h2⟩
theorem RowB.cell {T : TypeId} {w : World} {g : Nat} {B : List Bool} (h : RowB T w g B) {j : Nat} (hj : j < B.length) : w.cell? ⟨g, j, none⟩ = some (.bool (B.getD j false)) := by
  obtain ⟨cs, h1, h2⟩ := h
  rw [cell_of_row _ _ _ _ _ _ h1, ← Array.getElem?_toList, h2, List.getElem?_map, List.getD_eq_getElem?_getD, List.getElem?_eq_getElem hj]; rfl
theorem RowB.frozen {T : TypeId} {w : World} {g : Nat} {B : List Bool} (h : RowB T w g B) (j : Nat) : w.frozen? ⟨g, j, none⟩ = false := by
  obtain ⟨cs, h1, _⟩ := h; simp [World.frozen?, h1]
theorem RowB.set {T : TypeId} {w : World} {g : Nat} {B : List Bool} (h : RowB T w g B) (j : Nat) (v : Bool) : RowB T (w.setCell ⟨g, j, none⟩ (.bool v)) g (B.set j v) := by
  obtain ⟨cs, h1, h2⟩ := h
  refine ⟨_, setCell_at _ _ _ _ _ _ h1, ?_⟩
  rw [Array.toList_setIfInBounds, h2, List.map_set]

/-- Is an address free, beside what is marked? -/
def clash (L : List OB) (A : List Int) (B : List Bool) (b : OB) (p : Int) (k : Nat) : Bool :=
  B.getD k false && (meet b (blk L k) && (decide (p < addr A k + (blk L k).s) && decide (addr A k < p + b.s)))
def freeB (L : List OB) (A : List Int) (B : List Bool) (b : OB) (p : Int) : Bool := (List.range L.length).all fun k => !clash L A B b p k
theorem freeB_is {L : List OB} {A : List Int} {B : List Bool} {S : List Nat} (hS : ∀ k, k ∈ S ↔ (k < L.length ∧ B.getD k false = true)) (b : OB) (p : Int) : freeB L A B b p = free L A S b p := by
  rw [Bool.eq_iff_iff, free_iff]
  unfold freeB
  rw [List.all_eq_true]
  constructor
  · intro h k hk hm
    obtain ⟨h1, h2⟩ := (hS k).1 hk
    have := h k (List.mem_range.2 h1)
    unfold clash at this
    rw [h2, hm] at this
    simp at this
    exact this
  · intro h k hk
    unfold clash
    cases hb : B.getD k false with
    | false => simp
    | true =>
      cases hm : meet b (blk L k) with
      | false => simp
      | true =>
        rcases h k ((hS k).2 ⟨List.mem_range.1 hk, hb⟩) hm with h1 | h1
        · rw [decide_eq_false (show ¬ p < addr A k + (blk L k).s by omega)]; rfl
        · rw [decide_eq_false (show ¬ addr A k < p + b.s by omega)]; simp

theorem alloc2_grow (w : World) (o1 o2 : Obj) : (w.alloc o1).alloc o2 = grow (w.drewN 0) #[o1, o2] := by
  rw [alloc_eq_grow, alloc_eq_grow, grow_grow]; rfl
set_option maxHeartbeats 400000 in
theorem meetR_grown (x y : OB) (w : World) : Calls Try.prog 68 #[ob x, ob y] w fun e w' => e = .returned (.bool (meet x y)) ∧ ∃ q os', w' = grow (w.drewN q) os' := by
  have hb := alloc2_grow w (.cells #[.int .i64 x.s, .int .i64 x.a, .int .i64 x.f, .int .i64 x.t] 42) (.cells #[.int .i64 y.s, .int .i64 y.a, .int .i64 y.f, .int .i64 y.t] 42)
  have H := Lib.hid hb
  clear hb
  unfold meet
  by_cases h : x.f < y.t
  · go_enter Try.func68, Try.ntmps68
    go_wp2
    go_ret
    exact ⟨by simp [h], 0, _, H.out⟩
  · go_enter Try.func68, Try.ntmps68
    go_wp2
    go_ret
    exact ⟨by rw [decide_eq_false (show ¬ x.f < y.t by omega)]; rfl, 0, _, H.out⟩

theorem drop_range {n k : Nat} (h : k < n) : (List.range n).drop k = k :: (List.range n).drop (k + 1) := by
  rw [List.drop_eq_getElem_cons (by simpa using h)]; simp
theorem grown_below {w : World} {n : Nat} (q : Nat) (os : Array Obj) (h : n ≤ w.heap.size) : Below n w (grow (w.drewN q) os) := by
  refine ⟨rfl, rfl, rfl, ?_, fun k hk => ?_⟩
  · show w.heap.size ≤ (w.heap ++ os).size
    simp
  · show (w.heap ++ os)[k]? = w.heap[k]?
    rw [Array.getElem?_append_left (by omega)]

attribute [local irreducible] wpQuiet
set_option maxRecDepth 100000 in
set_option maxHeartbeats 4000000 in
theorem freeR_ok (w : World) (lA : Option Addr) (lc : Nat) (L : List OB) (ga : Nat) (A : List Int) (gb : Nat) (B : List Bool) (i : Nat) (p : Int)
    (hl : OBAt w lA lc L) (ha : RowI 2 w ga A) (hb : RowB 4 w gb B) (hL : OkL L) (hA : A.length = L.length) (hB : B.length = L.length) (hi : i < L.length)
    (hbd : ∀ k, k < L.length → 0 ≤ addr A k ∧ addr A k ≤ 100000000) (hp0 : 0 ≤ p) (hp1 : p ≤ 100000000) :
    Calls Try.prog 63 #[.slice lA L.length lc, .slice (some ⟨ga, 0, none⟩) L.length L.length, .slice (some ⟨gb, 0, none⟩) L.length L.length, .int .i64 (i : Int), .int .i64 p] w
      fun e w' => e = .returned (.bool (freeB L A B (blk L i) p)) ∧ Below w.heap.size w w' := by
  have hlen := hL.1
  have hcl := hl.1
  have hcm := hl.2.1
  unfold maxLen at hcm
  obtain ⟨g, o, rfl, hg, x0, x1, x2, x3⟩ := hl.at hi
  have HH := Lib.hid (And.intro hl (And.intro ha (And.intro hb (And.intro hL (And.intro hA (And.intro hB hbd))))))
  have hga := ha.lt
  have hgb := hb.lt
  have hbi := hL.blk i
  have hs1 := hbi.s1
  have hs2 := hbi.s2
  clear hl ha hb hL hA hB hbd hbi
  generalize hbe : blk L i = b at *
  have HBE := Lib.hid hbe
  clear hbe
  obtain ⟨s, a, f, u⟩ := b
  dsimp only at x0 x1 x2 x3 hs1 hs2
  have mixed : Try.prog.follows .mixedOrders = true := by kernel_rfl
  go_enter Try.func63, Try.ntmps63
  go_wp2_with (fail)
  go_loopw [11] (fun i wr => ∃ k : Nat, k ≤ L.length ∧ i = .int .i64 k ∧ freeB L A B ⟨s, a, f, u⟩ p = ((List.range L.length).drop k).all (fun k => !clash L A B ⟨s, a, f, u⟩ p k) ∧ Below w.heap.size w wr) (fun i _ => L.length - (intOf i).toNat)
  case atStart => exact ⟨0, Nat.zero_le _, rfl, rfl, Below.refl _ _⟩
  case round =>
    obtain ⟨k, hk, rfl, hall, hbw⟩ := hrel
    by_cases hlt : k < L.length
    · have hbz := hbw.size
      obtain ⟨g', o', hgo, hgl, y0, y1, y2, y3⟩ := HH.out.1.at hlt
      injection hgo with hgo; injection hgo with hg1 hg2 _
      subst hg1; subst hg2
      have ya := HH.out.2.1.cell (j := k) (by rw [HH.out.2.2.2.2.1]; exact hlt)
      have yb := HH.out.2.2.1.cell (j := k) (by rw [HH.out.2.2.2.2.2.1]; exact hlt)
      have hbk := HH.out.2.2.2.1.blk k
      have ks1 := hbk.s1
      have ks2 := hbk.s2
      have kbd := HH.out.2.2.2.2.2.2 k hlt
      rw [drop_range hlt, List.all_cons] at hall
      have hcl' : clash L A B ⟨s, a, f, u⟩ p k = (B.getD k false && (meet ⟨s, a, f, u⟩ (blk L k) && (decide (p < addr A k + (blk L k).s) && decide (addr A k < p + s)))) := rfl
      have hmt := fun W => meetR_grown ⟨s, a, f, u⟩ (blk L k) W
      generalize clash L A B ⟨s, a, f, u⟩ p k = cl at *
      generalize addr A k = ak at *
      generalize blk L k = bk at *
      obtain ⟨ks, ka, kf, ku⟩ := bk
      dsimp only [ob] at y0 y1 y2 y3 ks1 ks2 hmt hcl'
      have gr : ∀ {e : Nat} {oo : Nat} {v : Value}, e < w.heap.size → w.cell? ⟨e, oo, none⟩ = some v → ∀ n os, (grow (wr.drewN n) os).cell? ⟨e, oo, none⟩ = some v := fun he hc n os => cell_grown (Nat.lt_of_lt_of_le he hbz) ((hbw.cell (p := ⟨_, _, none⟩) he).trans hc) n os
      have X0 := gr hg x0
      have X1 := gr hg x1
      have X2 := gr hg x2
      have X3 := gr hg x3
      have Y0 := gr hg y0
      have Y1 := gr hg y1
      have Y2 := gr hg y2
      have Y3 := gr hg y3
      have YA := gr hga ya
      have YB := gr hgb yb
      have hw0 : ∀ {e : Nat} {oo : Nat} {v : Value}, e < w.heap.size → w.cell? ⟨e, oo, none⟩ = some v → wr.cell? ⟨e, oo, none⟩ = some v := fun he hc => (hbw.cell (p := ⟨_, _, none⟩) he).trans hc
      have q1 : IntKind.i64.wrap (ak + ks) = ak + ks := IntWalk.i64_in _ (by omega)
      have q2 : IntKind.i64.wrap (p + s) = p + s := IntWalk.i64_in _ (by omega)
      have HF := Lib.hid (And.intro hall (And.intro hbw hcl'))
      have HM := Lib.hid hmt
      clear gr hw0 x0 x1 x2 x3 y0 y1 y2 y3 ya yb hall hbw hbk hmt hcl'
      have hdone : ∀ q os, Below w.heap.size w (grow (wr.drewN q) os) := fun q os => HF.out.2.1.trans (grown_below q os hbz)
      have HD := Lib.hid hdone
      clear hdone
      cases hBk : B.getD k false with
      | false =>
        rw [hBk] at YB
        have hcf : cl = false := by rw [HF.out.2.2, hBk]; rfl
        have HC := Lib.hid hcf
        clear hcf hBk
        go_wp2_with (fail)
        go_quiet_grown (fail)
        go_wp2
        go_roundw
        case rel => exact ⟨k + 1, by omega, by go_num, by rw [HF.out.1, HC.out]; rfl, HD.out _ _⟩
        case measure => simp [intOf]; omega
      | true =>
        rw [hBk] at YB
        cases hme : meet ⟨s, a, f, u⟩ ⟨ks, ka, kf, ku⟩ with
        | false =>
          rw [hme] at HM
          have hcf : cl = false := by rw [HF.out.2.2, hBk, hme]; rfl
          have HC := Lib.hid hcf
          clear hcf hBk hme
          go_wp2_with (fail)
          go_quiet_grown ((go_at_call 68; exact Calls.grown_of (HM.out _)))
          go_wp2
          go_roundw
          case rel => exact ⟨k + 1, by omega, by go_num, by rw [HF.out.1, HC.out]; rfl, HD.out _ _⟩
          case measure => simp [intOf]; omega
        | true =>
          rw [hme] at HM
          by_cases h1 : p < ak + ks
          · by_cases h2 : ak < p + s
            · have hcf : cl = true := by rw [HF.out.2.2, hBk, hme, decide_eq_true h1, decide_eq_true h2]; rfl
              have HC := Lib.hid hcf
              clear hcf hBk hme
              go_wp2_with (fail)
              go_quiet_grown ((go_at_call 68; exact Calls.grown_of (HM.out _)))
              go_wp2
              go_ret
              exact ⟨by rw [HF.out.1, HC.out]; rfl, HD.out _ _⟩
            · have hcf : cl = false := by rw [HF.out.2.2, hBk, hme, decide_eq_true h1, decide_eq_false h2]; rfl
              have HC := Lib.hid hcf
              clear hcf hBk hme
              go_wp2_with (fail)
              go_quiet_grown ((go_at_call 68; exact Calls.grown_of (HM.out _)))
              go_wp2
              go_roundw
              case rel => exact ⟨k + 1, by omega, by go_num, by rw [HF.out.1, HC.out]; rfl, HD.out _ _⟩
              case measure => simp [intOf]; omega
          · have hcf : cl = false := by rw [HF.out.2.2, hBk, hme, decide_eq_false h1]; rfl
            have HC := Lib.hid hcf
            clear hcf hBk hme
            have h1' : decide (p < ak + ks) = false := decide_eq_false h1
            have h1'' : ak + ks ≤ p := by omega
            go_wp2_with (fail)
            go_quiet_grown ((go_at_call 68; exact Calls.grown_of (HM.out _)))
            go_wp2
            go_roundw
            case rel => exact ⟨k + 1, by omega, by go_num, by rw [HF.out.1, HC.out]; rfl, HD.out _ _⟩
            case measure => simp [intOf]; omega
    · obtain rfl : k = L.length := by omega
      rw [List.drop_eq_nil_of_le (by simp)] at hall
      have HF := Lib.hid (And.intro hall hbw)
      clear hall hbw
      go_wp2
      go_ret
      exact ⟨by rw [HF.out.1]; rfl, HF.out.2⟩
end Of
end Go.Proofs.Ytjgakcpjphdicaa
namespace Go.Proofs.Ytjgakcpjphdicaa.Of

/-- The marks of what was laid. -/
def marks (n : Nat) (o : List Nat) : List Bool := (List.range n).map fun k => decide (k ∈ o)
theorem marks_len (n : Nat) (o : List Nat) : (marks n o).length = n := by simp [marks]
theorem marks_at {n k : Nat} {o : List Nat} (h : k < n) : (marks n o).getD k false = decide (k ∈ o) := by
  unfold marks
  rw [List.getD_eq_getElem?_getD, List.getElem?_map, List.getElem?_range h]; rfl
theorem marks_nil (n : Nat) : marks n [] = List.replicate n false := by
  unfold marks
  simp
  apply List.ext_getElem <;> simp
theorem marks_set {n i : Nat} {o : List Nat} (h : i < n) : (marks n o).set i true = marks n (o ++ [i]) := by
  apply List.ext_getElem
  · simp [marks]
  · intro k h1 h2
    have hk : k < n := by simpa [marks] using h2
    rw [List.getElem_set]
    by_cases e : i = k
    · subst e; simp [marks]
    · rw [if_neg e]
      simp only [marks, List.getElem_map, List.getElem_range, List.mem_append, List.mem_singleton]
      rw [decide_eq_decide]
      constructor
      · exact .inl
      · rintro (h | h)
        · exact h
        · exact absurd h.symm e
/-- What was not laid has the address 0. -/
theorem lays_zero (L : List OB) : ∀ (m : Nat) (o : List Nat), o.length = m → ∀ k, k ∉ o → addr (lays L o).A k = 0 := by
  intro m
  induction m with
  | zero =>
    intro o ho k _
    rw [List.length_eq_zero_iff.1 ho]
    unfold lays st0 addr
    rw [List.foldl_nil, List.getD_eq_getElem?_getD, List.getElem?_replicate]
    split <;> rfl
  | succ m ih =>
    intro o ho k hk
    rcases snoc_cases o with rfl | ⟨p, i, rfl⟩
    · simp at ho
    · rw [List.mem_append, List.mem_singleton] at hk
      have h1 := ih p (by simpa using ho) k (fun e => hk (.inl e))
      rw [lays_snoc]
      unfold St.next
      by_cases hi : i < (lays L p).A.length
      · rw [addr_set hi, if_neg (fun e => hk (.inr e))]; exact h1
      · rw [List.set_eq_of_length_le (by omega)]; exact h1
theorem lays_bd {L : List OB} (hL : OkL L) {o : List Nat} (h : Ord L.length o) (k : Nat) : 0 ≤ addr (lays L o).A k ∧ addr (lays L o).A k ≤ 34816000 := by
  by_cases hk : k ∈ o
  · have hg := good hL h
    have hs : k ∈ (lays L o).S := by rw [lays_S]; exact hk
    have h1 := hg.pos k hs
    have h2 := hg.top k hs
    have h3 := hg.bd
    have h4 := ord_len h
    have h5 := (hL.blk k).s1
    have h6 := hL.1
    rw [lays_S] at h3
    omega
  · rw [lays_zero L _ o rfl k hk]; omega

/-- What was tried so far. -/
def Tried (L : List OB) (A : List Int) (o : List Nat) (b : OB) (k : Nat) (c : Int) : Prop := c = 0 ∨ ∃ j, j < k ∧ j ∈ o ∧ c = up (addr A j + (blk L j).s) b.a
structure Inv (L : List OB) (A : List Int) (o : List Nat) (b : OB) (k : Nat) (best : Int) (found : Bool) : Prop where
  yes : found = true → Tried L A o b k best ∧ free L A o b best = true ∧ ∀ c, Tried L A o b k c → free L A o b c = true → best ≤ c
  no : found = false → best = 0 ∧ ∀ c, Tried L A o b k c → free L A o b c = false
theorem inv0 (L : List OB) (A : List Int) (o : List Nat) (b : OB) : Inv L A o b 0 0 (free L A o b 0) := by
  have ht : ∀ c, Tried L A o b 0 c → c = 0 := fun c h => by
    rcases h with h | ⟨j, hj, _⟩
    · exact h
    · omega
  refine ⟨fun h => ⟨.inl rfl, h, fun c hc _ => by rw [ht c hc]; exact Int.le_refl _⟩, fun h => ⟨rfl, fun c hc => by rw [ht c hc]; exact h⟩⟩
theorem tried_next {L : List OB} {A : List Int} {o : List Nat} {b : OB} {k : Nat} {c : Int} : Tried L A o b (k + 1) c ↔ Tried L A o b k c ∨ (k ∈ o ∧ c = up (addr A k + (blk L k).s) b.a) := by
  unfold Tried
  constructor
  · rintro (h | ⟨j, hj, h1, h2⟩)
    · exact .inl (.inl h)
    · rcases Nat.lt_or_ge j k with h | h
      · exact .inl (.inr ⟨j, h, h1, h2⟩)
      · obtain rfl : j = k := by omega
        exact .inr ⟨h1, h2⟩
  · rintro ((h | ⟨j, hj, h1, h2⟩) | ⟨h1, h2⟩)
    · exact .inl h
    · exact .inr ⟨j, by omega, h1, h2⟩
    · exact .inr ⟨k, by omega, h1, h2⟩
theorem Inv.skip {L : List OB} {A : List Int} {o : List Nat} {b : OB} {k : Nat} {best : Int} {found : Bool} (h : Inv L A o b k best found) (hk : k ∉ o) : Inv L A o b (k + 1) best found := by
  have e : ∀ c, Tried L A o b (k + 1) c ↔ Tried L A o b k c := fun c => by rw [tried_next]; exact ⟨fun h => h.elim id fun h => absurd h.1 hk, .inl⟩
  exact ⟨fun hf => by obtain ⟨h1, h2, h3⟩ := h.yes hf; exact ⟨(e _).2 h1, h2, fun c hc => h3 c ((e c).1 hc)⟩, fun hf => by obtain ⟨h1, h2⟩ := h.no hf; exact ⟨h1, fun c hc => h2 c ((e c).1 hc)⟩⟩
theorem Inv.keep {L : List OB} {A : List Int} {o : List Nat} {b : OB} {k : Nat} {best : Int} {found : Bool} (h : Inv L A o b k best found) (hn : (found = true ∧ best ≤ up (addr A k + (blk L k).s) b.a) ∨ free L A o b (up (addr A k + (blk L k).s) b.a) = false) : Inv L A o b (k + 1) best found := by
  refine ⟨fun hf => ?_, fun hf => ?_⟩
  · obtain ⟨h1, h2, h3⟩ := h.yes hf
    refine ⟨tried_next.2 (.inl h1), h2, fun c hc hcf => ?_⟩
    rcases tried_next.1 hc with h4 | ⟨_, rfl⟩
    · exact h3 c h4 hcf
    · rcases hn with h4 | h4
      · exact h4.2
      · rw [h4] at hcf; cases hcf
  · obtain ⟨h1, h2⟩ := h.no hf
    refine ⟨h1, fun c hc => ?_⟩
    rcases tried_next.1 hc with h4 | ⟨_, rfl⟩
    · exact h2 c h4
    · rcases hn with h4 | h4
      · rw [hf] at h4; cases h4.1
      · exact h4
theorem Inv.take {L : List OB} {A : List Int} {o : List Nat} {b : OB} {k : Nat} {best : Int} {found : Bool} (h : Inv L A o b k best found) (hk : k ∈ o) (hn : found = false ∨ up (addr A k + (blk L k).s) b.a < best) (hf : free L A o b (up (addr A k + (blk L k).s) b.a) = true) : Inv L A o b (k + 1) (up (addr A k + (blk L k).s) b.a) true := by
  refine ⟨fun _ => ⟨tried_next.2 (.inr ⟨hk, rfl⟩), hf, fun c hc hcf => ?_⟩, fun e => by cases e⟩
  rcases tried_next.1 hc with h4 | ⟨_, rfl⟩
  · cases hfo : found with
    | false =>
      obtain ⟨_, h2⟩ := h.no hfo
      rw [h2 c h4] at hcf; cases hcf
    | true =>
      obtain ⟨_, _, h3⟩ := h.yes hfo
      have := h3 c h4 hcf
      rcases hn with h5 | h5
      · rw [hfo] at h5; cases h5
      · omega
  · exact Int.le_refl _
theorem tried_cands {L : List OB} {A : List Int} {o : List Nat} {b : OB} {c : Int} (hin : ∀ k, k ∈ o → k < L.length) : c ∈ cands L A o b ↔ Tried L A o b L.length c := by
  unfold cands Tried
  rw [List.mem_cons, List.mem_map]
  constructor
  · rintro (h | ⟨k, hk, rfl⟩)
    · exact .inl h
    · exact .inr ⟨k, hin k hk, hk, rfl⟩
  · rintro (h | ⟨k, _, hk, rfl⟩)
    · exact .inl h
    · exact .inr ⟨k, hk, rfl⟩
theorem fit_of_min {L : List OB} {A : List Int} {o : List Nat} {b : OB} (hb : Ok b) {p : Int} (hp : p ∈ cands L A o b) (h0 : 0 ≤ p) (hf : free L A o b p = true) (hm : ∀ c, c ∈ cands L A o b → free L A o b c = true → p ≤ c) : p = fit L A o b := by
  refine IsFit.uniq (L := L) (A := A) (S := o) (b := b) ⟨h0, cand_dvd hp, hf, fun q q0 qd qf => ?_⟩ (fit_is hb o)
  obtain ⟨c, c1, _, c3, c4⟩ := cand_free hb o q q0 qd qf
  exact Int.le_trans (hm c c1 c4) c3
theorem tried_pos {L : List OB} {A : List Int} {o : List Nat} {b : OB} {k : Nat} {c : Int} (hb : Ok b) (hL : OkL L) (hA : ∀ j, 0 ≤ addr A j ∧ addr A j ≤ 34816000) (h : Tried L A o b k c) : 0 ≤ c ∧ c ≤ 34900000 := by
  rcases h with rfl | ⟨j, _, _, rfl⟩
  · omega
  · have h1 := hA j
    have h2 := hL.blk j
    have h3 := h2.s1
    have h4 := h2.s2
    have h5 := isPow_bd hb.a0
    have h6 := up_le (x := addr A j + (blk L j).s) h5.1
    omega
theorem Inv.bd {L : List OB} {A : List Int} {o : List Nat} {b : OB} {k : Nat} {best : Int} {found : Bool} (h : Inv L A o b k best found) (hb : Ok b) (hL : OkL L) (hA : ∀ j, 0 ≤ addr A j ∧ addr A j ≤ 34816000) : 0 ≤ best ∧ best ≤ 34900000 := by
  cases hf : found with
  | true => exact tried_pos hb hL hA (h.yes hf).1
  | false => rw [(h.no hf).1]; omega
theorem Inv.zero {L : List OB} {A : List Int} {o : List Nat} {b : OB} {k : Nat} (h : Inv L A o b k 0 true) (hb : Ok b) (hL : OkL L) (hA : ∀ j, 0 ≤ addr A j ∧ addr A j ≤ 34816000) (hin : ∀ k, k ∈ o → k < L.length) : (0 : Int) = fit L A o b := by
  obtain ⟨_, h2, _⟩ := h.yes rfl
  exact fit_of_min hb (List.mem_cons_self ..) (Int.le_refl _) h2 fun c hc _ => (tried_pos hb hL hA ((tried_cands hin).1 hc)).1
theorem Inv.all {L : List OB} {A : List Int} {o : List Nat} {b : OB} {best : Int} {found : Bool} (h : Inv L A o b L.length best found) (hb : Ok b) (hL : OkL L) (hA : ∀ j, 0 ≤ addr A j ∧ addr A j ≤ 34816000) (hin : ∀ k, k ∈ o → k < L.length) : best = fit L A o b := by
  cases hf : found with
  | true =>
    obtain ⟨h1, h2, h3⟩ := h.yes hf
    exact fit_of_min hb ((tried_cands hin).2 h1) (tried_pos hb hL hA h1).1 h2 fun c hc hcf => h3 c ((tried_cands hin).1 hc) hcf
  | false =>
    obtain ⟨_, h2⟩ := h.no hf
    obtain ⟨q, q0, qd, qf⟩ := far_free (L := L) (A := A) hb o
    obtain ⟨c, c1, _, _, c4⟩ := cand_free hb o q q0 qd (free_iff.2 fun k hk _ => .inl (qf k hk))
    rw [h2 c ((tried_cands hin).1 c1)] at c4; cases c4
end Go.Proofs.Ytjgakcpjphdicaa.Of
