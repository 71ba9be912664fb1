/- Save of a cache. Caches that are nil, or were not returned by New or Load. Same of two saved states that are equal. New and Load for buddy allocators that are none. -/
import Derived.Test.YtlknhbcambdccaaK26
import Derived.Test.YtlknhbcambdccaaK24
import Derived.Test.YtlknhbcambdccaaK27
import Derived.Deep.RegionLaw
import Derived.RegionTactic
import Derived.ChangeAlike
import Derived.Test.YtlknhbcambdccaaK6
namespace Go.Proofs.Ytlknhbcambdccaa
open Go.RowKit Go.Shelf
namespace Sl
open Bu

abbrev SbZ := (Int × List Bool) × (Option Addr × Nat)
/-- The cells of the slabs of a saved state. -/
def cellsSb (Z : List SbZ) : List Value := Z.flatMap fun z => [.int .i64 z.1.1, .slice z.2.1 z.1.2.length z.2.2]
theorem cellsSb_add (Z : List SbZ) (z : SbZ) : cellsSb (Z ++ [z]) = cellsSb Z ++ [.int .i64 z.1.1, .slice z.2.1 z.1.2.length z.2.2] := by simp [cellsSb]
theorem cellsSb_get : ∀ {Z : List SbZ} {j : Nat} {z : SbZ}, Z[j]? = some z → (cellsSb Z)[j * 2]? = some (.int .i64 z.1.1) ∧ (cellsSb Z)[j * 2 + 1]? = some (.slice z.2.1 z.1.2.length z.2.2) := by
  intro Z
  induction Z with
  | nil => intro j z h; simp at h
  | cons y Z ih =>
    intro j z h
    rw [show cellsSb (y :: Z) = .int .i64 y.1.1 :: .slice y.2.1 y.1.2.length y.2.2 :: cellsSb Z from rfl]
    cases j with
    | zero => simp at h; subst h; exact ⟨rfl, rfl⟩
    | succ j =>
      obtain ⟨h1, h2⟩ := ih (j := j) (z := z) (by simpa using h)
      rw [show (j + 1) * 2 = j * 2 + 1 + 1 by omega, show j * 2 + 1 + 1 + 1 = (j * 2 + 1) + 1 + 1 by omega]
      exact ⟨by simpa using h1, by simpa using h2⟩
theorem sb_of {w : World} {B cp : Nat} {A : Option Addr} {Z : List SbZ} (h : w.ownsRow B 90 2 (.slice A Z.length cp) Z.length (cellsSb Z)) (hz : ∀ z ∈ Z, BoolAt B w z.2.1 z.2.2 z.1.2) : SbAt B w A cp (Z.map (·.1)) := by
  have hmem : ∀ (j : Nat) (x : Int × List Bool), (Z.map (·.1))[j]? = some x → ∃ z, Z[j]? = some z ∧ z.1 = x := fun j x hx => by
    rw [List.getElem?_map] at hx
    exact Option.map_eq_some_iff.1 hx
  rcases h.2 with ⟨hv, h0⟩ | ⟨g, cp', cur, hv, hB, hg, h1, h2, _⟩
  · injection hv with e1 e2 e3
    refine ⟨by simp; omega, by unfold maxLen; omega, fun j x hx => ?_⟩
    have := (List.getElem?_eq_some_iff.1 hx).1
    simp at this; omega
  · injection hv with e1 e2 e3
    subst e1; subst e3
    refine ⟨by simpa using h1, h2, fun j x hx => ?_⟩
    obtain ⟨z, hzj, rfl⟩ := hmem j x hx
    obtain ⟨d0, d1⟩ := cellsSb_get hzj
    exact ⟨g, 0, z.2.1, z.2.2, rfl, hB, lt_of_heap hg, by rw [Nat.zero_add]; exact row_at h d0, by rw [Nat.zero_add]; exact row_at h d1, hz z (List.mem_of_getElem? hzj)⟩

theorem BoolAt.low {B B' : Nat} {w : World} {A : Option Addr} {c : Nat} {us : List Bool} (hB : B' ≤ B) (h : BoolAt B w A c us) : BoolAt B' w A c us :=
  ⟨h.1, h.2.1, fun i v hv => by
    obtain ⟨g, o, h1, h2, h3, h4⟩ := h.2.2 i v hv
    exact ⟨g, o, h1, Nat.le_trans hB h2, h3, h4⟩⟩
theorem SbAt.low {B B' : Nat} {w : World} {A : Option Addr} {c : Nat} {l : List (Int × List Bool)} (hB : B' ≤ B) (h : SbAt B w A c l) : SbAt B' w A c l :=
  ⟨h.1, h.2.1, fun j x hx => by
    obtain ⟨g, o, U, cu, h1, h2, h3, h4, h5, h6⟩ := h.2.2 j x hx
    exact ⟨g, o, U, cu, h1, Nat.le_trans hB h2, h3, h4, h5, h6.low hB⟩⟩
theorem four_set {W : World} {B T : Nat} {x0 x1 x2 x3 : Value} (h : W.heap[B]? = some (.cells #[x0, x1, x2, x3] T (0, 0))) (y0 y1 y2 y3 : Value) :
    ((((W.setCell ⟨B, 0, none⟩ y0).setCell ⟨B, 1, none⟩ y1).setCell ⟨B, 2, none⟩ y2).setCell ⟨B, 3, none⟩ y3).heap[B]? = some (.cells #[y0, y1, y2, y3] T (0, 0)) :=
  setCell_at _ _ _ _ _ _ (setCell_at _ _ _ _ _ _ (setCell_at _ _ _ _ _ _ (setCell_at _ _ _ _ _ _ h)))
/-- A saved state, as a value. -/
abbrev stv (size order keep : Int) (A : Option Addr) (n c : Nat) : Value := .agg #[.int .i64 size, .int .i64 order, .int .i64 keep, .slice A n c]

theorem save_step {w wr w5 W : World} {S k cp g6 cap6 c5 : Nat} {C : Ca} {A A5 : Option Addr} {Z : List SbZ} {x : Slb} (hS : S = w.heap.size + 1) (hkZ : k = Z.length) (hk : k < C.sl.length)
    (hZ : Z.map (·.1) = (saveS C.sl).take k) (hZb : ∀ z ∈ Z, BoolAt (w.heap.size + 1) wr z.2.1 z.2.2 z.1.2 ∧ ∀ g, z.2.1.map (·.block) = some g → g < wr.heap.size ∧ (Value.slice A k cp).ownBlock ≠ some g) (hr : wr.ownsRow (S + 1) 90 2 (.slice A k cp) k (cellsSb Z))
    (hSc : wr.heap[S]? = some (.cells #[.int .i64 (C.size : Int), .int .i64 (C.order : Int), .int .i64 (C.keep : Int), .slice A k cp] 69 (0, 0))) (hRc : wr.heap[w.heap.size]? = some (.cells #[.int .i64 0, .int .i64 0, .int .i64 0, .slice none 0 0] 69 (0, 0))) (hb : Below w.heap.size w wr) (hx : C.sl[k]? = some x)
    (h5 : w5.ownsRow wr.heap.size 4 1 (.slice A5 x.us.length c5) x.us.length (bcells x.us)) (hb5 : Below wr.heap.size wr w5)
    (h6 : W.ownsRow (S + 1) 90 2 (.slice (some ⟨g6, 0, none⟩) (k + 1) cap6) (k + 1) (cellsSb Z ++ [.int .i64 (x.pg : Int), .slice A5 x.us.length c5])) (hg : (w5.alloc (.cells #[.int .i64 (x.pg : Int), .slice A5 x.us.length c5] 90)).grownBy W (Value.slice A k cp).ownBlock) (hat : (Value.slice A k cp).ownBlock = some g6 ∨ g6 = w5.heap.size + 1) :
    (Z ++ [(((x.pg : Int), x.us), (A5, c5))]).map (·.1) = (saveS C.sl).take (Z ++ [(((x.pg : Int), x.us), (A5, c5))]).length ∧
    (∀ z ∈ Z ++ [(((x.pg : Int), x.us), (A5, c5))], BoolAt (w.heap.size + 1) (W.setCell ⟨S, 3, none⟩ (.slice (some ⟨g6, 0, none⟩) (k + 1) cap6)) z.2.1 z.2.2 z.1.2 ∧ ∀ g, z.2.1.map (·.block) = some g → g < W.heap.size ∧ (Value.slice (some ⟨g6, 0, none⟩) (k + 1) cap6).ownBlock ≠ some g) ∧
    (W.setCell ⟨S, 3, none⟩ (.slice (some ⟨g6, 0, none⟩) (k + 1) cap6)).ownsRow (S + 1) 90 2 (.slice (some ⟨g6, 0, none⟩) (Z ++ [(((x.pg : Int), x.us), (A5, c5))]).length cap6) (Z ++ [(((x.pg : Int), x.us), (A5, c5))]).length (cellsSb (Z ++ [(((x.pg : Int), x.us), (A5, c5))])) ∧
    (W.setCell ⟨S, 3, none⟩ (.slice (some ⟨g6, 0, none⟩) (k + 1) cap6)).heap[S]? = some (.cells #[.int .i64 (C.size : Int), .int .i64 (C.order : Int), .int .i64 (C.keep : Int), .slice (some ⟨g6, 0, none⟩) (Z ++ [(((x.pg : Int), x.us), (A5, c5))]).length cap6] 69 (0, 0)) ∧
    (W.setCell ⟨S, 3, none⟩ (.slice (some ⟨g6, 0, none⟩) (k + 1) cap6)).heap[w.heap.size]? = some (.cells #[.int .i64 0, .int .i64 0, .int .i64 0, .slice none 0 0] 69 (0, 0)) ∧
    Below w.heap.size w (W.setCell ⟨S, 3, none⟩ (.slice (some ⟨g6, 0, none⟩) (k + 1) cap6)) := by
  have hlen : (Z ++ [(((x.pg : Int), x.us), (A5, c5))]).length = k + 1 := by rw [List.length_append, List.length_singleton, hkZ]
  have hSl := lt_of_heap hSc
  have h5s := hb5.size
  have hal : (w5.alloc (.cells #[.int .i64 (x.pg : Int), .slice A5 x.us.length c5] 90)).heap.size = w5.heap.size + 1 := by simp
  have hgs := hg.size
  have hrow : ∀ z, (Value.slice A k cp).ownBlock = some z → S + 1 ≤ z ∧ z < wr.heap.size := fun z hz => hr.lt z hz
  have hold : ∀ z, z < wr.heap.size → some z ≠ (Value.slice A k cp).ownBlock → W.heap[z]? = wr.heap[z]? := fun z hz hn => (hg.block z (by omega) hn).trans ((alloc_old _ _ _ (by omega)).trans (hb5.block z hz))
  have hnew : ∀ z, wr.heap.size ≤ z → z < w5.heap.size → W.heap[z]? = w5.heap[z]? := fun z hz h => (hg.block z (by omega) (fun e => by have := (hrow z e.symm).2; omega)).trans (alloc_old _ _ _ h)
  have hnS : some S ≠ (Value.slice A k cp).ownBlock := fun e => by have := (hrow S e.symm).1; omega
  have hnR : some w.heap.size ≠ (Value.slice A k cp).ownBlock := fun e => by have := (hrow _ e.symm).1; omega
  have hwS : W.heap[S]? = _ := (hold S hSl hnS).trans hSc
  have htake : (saveS C.sl).take (k + 1) = (saveS C.sl).take k ++ [((x.pg : Int), x.us)] := by
    have hg1 : (saveS C.sl)[k]? = some ((x.pg : Int), x.us) := by unfold saveS; rw [List.getElem?_map, hx]; rfl
    obtain ⟨q1, q2⟩ := List.getElem?_eq_some_iff.1 hg1
    rw [List.take_succ_eq_append_getElem q1, q2]
  have hB6 : Below w.heap.size w (W.setCell ⟨S, 3, none⟩ (.slice (some ⟨g6, 0, none⟩) (k + 1) cap6)) := by
    refine ((((hb.trans (hb5.mono hb.size)).alloc (by have := hb.size; omega) _).grown hg (by have := hb.size; omega) fun z hz => by have := (hrow z hz).1; omega).setCell (p := ⟨S, 3, none⟩) (by show w.heap.size ≤ S; omega) _)
  refine ⟨?_, fun z hz => ?_, ?_, ?_, ?_, hB6⟩
  · rw [hlen, htake, List.map_append, hZ]; rfl
  · have hkS : ∀ V : World, ∀ z, z ≠ S → (V.setCell ⟨S, 3, none⟩ (.slice (some ⟨g6, 0, none⟩) (k + 1) cap6)).heap[z]? = V.heap[z]? := fun V z hz => setCell_far _ _ _ _ hz
    rcases List.mem_append.1 hz with h | h
    · obtain ⟨hbz, hgz⟩ := hZb z h
      refine ⟨?_, fun g hg' => ?_⟩
      · obtain ⟨b1, b2, b3⟩ := hbz
        refine ⟨b1, b2, fun i v hv => ?_⟩
        obtain ⟨g, o, e1, e2, e3, e4⟩ := b3 i v hv
        obtain ⟨f1, f2⟩ := hgz g (by rw [e1]; rfl)
        refine ⟨g, o, e1, e2, by rw [setCell_size]; omega, ?_⟩
        have hcS : g ≠ S := fun e => by
          subst e
          have := World.cell?_of_block (w := wr) (w' := wr) (a := ⟨g, o + i, none⟩) rfl
          rw [cell_of_row _ _ _ _ _ _ hSc] at e4
          have hlt : ∀ n : Nat, (#[Value.int .i64 (C.size : Int), .int .i64 (C.order : Int), .int .i64 (C.keep : Int), .slice A k cp] : Array Value)[n]? ≠ some (.bool v) := fun n => by
            match n with
            | 0 => simp
            | 1 => simp
            | 2 => simp
            | 3 => simp
            | n + 4 => simp
          exact hlt _ e4
        exact (World.cell?_of_block (a := ⟨g, o + i, none⟩) ((hkS W g hcS).trans (hold g f1 (fun e => f2 e.symm)))).trans e4
      · obtain ⟨f1, f2⟩ := hgz g hg'
        refine ⟨by omega, fun e => ?_⟩
        have e : g6 = g := by injection e
        rcases hat with h7 | h7
        · exact f2 (by rw [h7, e])
        · omega
    · have hz : z = (((x.pg : Int), x.us), (A5, c5)) := by simpa using h
      subst hz
      have hq := bool_row (B := w.heap.size + 1) (row_low (B := wr.heap.size) (row_keep (w' := W.setCell ⟨S, 3, none⟩ (.slice (some ⟨g6, 0, none⟩) (k + 1) cap6)) h5 fun z h1 h2 => (hkS W z (by omega)).trans (hnew z h1 h2)) (by have := lt_of_heap hRc; omega))
      refine ⟨hq, fun g hg' => ?_⟩
      have hg5 := h5.lt g (by
        have hg' : A5.map (·.block) = some g := hg'
        cases A5 with
        | none => cases hg'
        | some ad => exact hg')
      refine ⟨by omega, fun e => ?_⟩
      have e : g6 = g := by injection e
      rcases hat with h7 | h7
      · have := (hrow g6 h7).2; omega
      · omega
  · show World.ownsRow _ _ _ _ _ _ _
    rw [hlen, cellsSb_add]
    exact row_keep h6 fun z h1 h2 => setCell_far _ _ _ _ (by show z ≠ S; omega)
  · rw [hlen]
    exact setCell_at W S 3 _ _ _ hwS
  · rw [setCell_far _ _ _ _ (by show w.heap.size ≠ S; omega)]
    exact (hold w.heap.size (lt_of_heap hRc) hnR).trans hRc

theorem sb_all {w wr : World} {S cp : Nat} {A : Option Addr} {Z : List SbZ} (hr : wr.ownsRow (S + 1) 90 2 (.slice A Z.length cp) Z.length (cellsSb Z)) (hZb : ∀ z ∈ Z, BoolAt (w.heap.size + 1) wr z.2.1 z.2.2 z.1.2) (hS : S = w.heap.size + 1) (V : World) (hs : wr.heap.size ≤ V.heap.size)
    (hk : ∀ z, w.heap.size + 1 ≤ z → z < wr.heap.size → V.heap[z]? = wr.heap[z]?) : SbAt (w.heap.size + 1) V A cp (Z.map (·.1)) := by
  have h1 : wr.ownsRow (w.heap.size + 1) 90 2 (.slice A Z.length cp) Z.length (cellsSb Z) := row_low hr (by omega)
  exact (sb_of h1 hZb).keep hs hk

set_option maxRecDepth 100000 in
set_option maxHeartbeats 8000000 in
theorem saveS_ok (w : World) (own : Own?) (c b : Nat) (C : Ca) (N : Nat) (L : List Blk) (H : Held w own c b C N L) :
    Calls Try.prog 27 #[.pointer (some ⟨c, 0, none⟩)] w fun e w' => (∃ A cp, e = .returned (stv (C.size : Int) (C.order : Int) (C.keep : Int) A C.sl.length cp) ∧ SbAt w.heap.size w' A cp (saveS C.sl)) ∧ Below w.heap.size w w' := by
  obtain ⟨A0, cap, R, hC⟩ := H.at_
  have hfr := H.fresh
  have hcl := hfr c (by rw [hC.ownC]; simp)
  obtain ⟨W1, hW1⟩ : ∃ W1, W1 = w.alloc (.cells #[.int .i64 0, .int .i64 0, .int .i64 0, .slice none 0 0] 69) := ⟨_, rfl⟩
  have hb1 : Below w.heap.size w W1 := by rw [hW1]; exact below_box w _
  have hs1 : W1.heap.size = w.heap.size + 1 := by rw [hW1]; simp
  obtain ⟨c0, c1, c2, c3, c4, _⟩ := six_cells ((hb1.block c hcl).trans hC.cell)
  have hsl := ok_len H.ok
  obtain ⟨n, hn⟩ : ∃ n, n = C.sl.length := ⟨_, rfl⟩
  have hRn : R.length = n := hC.len.trans hn.symm
  rw [hRn] at c4
  rw [← hn] at hsl
  have hcp : n ≤ cap := by
    rcases hC.row.2 with ⟨hv, h0⟩ | ⟨g, cp, cur, hv, _, _, g1, g2, _⟩
    · omega
    · injection hv with _ _ h3; omega
  have HD := Lib.hid (dead_ok W1 c (some ⟨b, 0, none⟩) c0)
  have HX := Lib.hid (And.intro hC (And.intro H.ok (And.intro hfr (And.intro hn (And.intro hRn (And.intro hb1 hs1))))))
  have HW := Lib.hid hW1
  have hcw : c < W1.heap.size := by omega
  clear hC H hn hRn c0 hfr hb1 hs1 hW1
  go_enter Try.func27, Try.ntmps27
  go_wp2_with (go_at_call 34; fail)
  rw [← HW.out]
  refine HD.out.mono ?_
  rintro _ w' ⟨rfl, rfl⟩
  go_wp2_with (fail)
  go_region
  go_wp2_with (fail)
  obtain ⟨S, hS⟩ : ∃ S, S = W1.heap.size := ⟨_, rfl⟩
  obtain ⟨W2, hW2⟩ : ∃ W2, W2 = (W1.alloc (.cells #[.int .i64 (C.size : Int), .int .i64 (C.order : Int), .int .i64 (C.keep : Int), .slice none 0 0] 69)).drew := ⟨_, rfl⟩
  have hb2 : Below w.heap.size w W2 := by
    rw [hW2]
    have h1 := HX.out.2.2.2.2.2.1
    exact (h1.alloc (by have := HX.out.2.2.2.2.2.2; omega) _).drew
  have hS2 : W2.heap[S]? = some (.cells #[.int .i64 (C.size : Int), .int .i64 (C.order : Int), .int .i64 (C.keep : Int), .slice none 0 0] 69 (0, 0)) := by
    rw [hW2, hS]
    show (W1.alloc _).heap[W1.heap.size]? = _
    rw [heapAlloc, if_pos rfl]
  have hR2 : W2.heap[w.heap.size]? = some (.cells #[.int .i64 0, .int .i64 0, .int .i64 0, .slice none 0 0] 69 (0, 0)) := by
    rw [hW2]
    show (W1.alloc _).heap[w.heap.size]? = _
    have := HX.out.2.2.2.2.2.2
    rw [alloc_old _ _ _ (by omega), HW.out, heapAlloc, if_pos rfl]
  have hSw : S = w.heap.size + 1 := hS.trans HX.out.2.2.2.2.2.2
  have H2 := Lib.hid (And.intro hb2 (And.intro hS2 hR2))
  have HSw := Lib.hid hSw
  clear hSw
  rw [← hW2, ← hS]
  clear hW2 hb2 hS2 hR2 hS hcw c1 c2 c3 c4
  obtain ⟨i0, z0, hi0, hz0, hz1, hz2, hz3⟩ := info_open slblock_info
  go_loopw [27] (fun i wr => ∃ (A : Option Addr) (cp : Nat) (Z : List SbZ), Z.length ≤ n ∧ i = .int .i64 (Z.length : Int) ∧ Z.map (·.1) = (saveS C.sl).take Z.length ∧ (∀ z ∈ Z, BoolAt (w.heap.size + 1) wr z.2.1 z.2.2 z.1.2 ∧ ∀ g, z.2.1.map (·.block) = some g → g < wr.heap.size ∧ (Value.slice A Z.length cp).ownBlock ≠ some g) ∧ wr.ownsRow (S + 1) 90 2 (.slice A Z.length cp) Z.length (cellsSb Z) ∧
      wr.heap[S]? = some (.cells #[.int .i64 (C.size : Int), .int .i64 (C.order : Int), .int .i64 (C.keep : Int), .slice A Z.length cp] 69 (0, 0)) ∧ wr.heap[w.heap.size]? = some (.cells #[.int .i64 0, .int .i64 0, .int .i64 0, .slice none 0 0] 69 (0, 0)) ∧ Below w.heap.size w wr) (fun i _ => n - (intOf i).toNat)
  case atStart => exact ⟨none, 0, [], Nat.zero_le _, rfl, by simp, (fun z hz => by cases hz), World.ownsRow_nil _ _ _ _, H2.out.2.1, H2.out.2.2, H2.out.1⟩
  case round =>
    clear H2
    obtain ⟨A, cp, Z, hk, rfl, hZ, hZb, hr, hSc, hRc, hb⟩ := hrel
    obtain ⟨k, hkZ⟩ : ∃ k, k = Z.length := ⟨_, rfl⟩
    rw [← hkZ] at hk hr hSc hZ hZb ⊢
    have e0 : (0 : Int) ≤ (k : Int) := by omega
    by_cases hlt : k < n
    · have e1 : (k : Int) < (n : Int) := by omega
      have hC := HX.out.1
      have hkk : IntKind.i64.wrap ((k : Int) + 1) = ((k + 1 : Nat) : Int) := by rw [IntWalk.i64_in _ (by omega)]; rfl
      obtain ⟨x, hx⟩ : ∃ x, C.sl[k]? = some x := ⟨_, List.getElem?_eq_getElem (by have := HX.out.2.2.2.1; omega)⟩
      obtain ⟨p, hp⟩ : ∃ p, R[k]? = some p := ⟨_, List.getElem?_eq_getElem (by have := HX.out.2.2.2.2.1; omega)⟩
      obtain ⟨u, uc, hs⟩ := hC.slab k p x hp hx
      obtain ⟨g, rfl⟩ : ∃ g, A0 = some ⟨g, 0, none⟩ := by
        rcases hC.row.2 with ⟨_, h0⟩ | ⟨g, cp, cur, hv, _⟩
        · have := (List.getElem?_eq_some_iff.1 hp).1; omega
        · injection hv with hv; exact ⟨g, hv⟩
      have hfrs := HX.out.2.2.1
      have r0 : wr.cell? ⟨g, k, none⟩ = some (.pointer (some ⟨p, 0, none⟩)) := (World.cell?_of_block (a := ⟨g, k, none⟩) (hb.block g (hfrs g (by rw [hC.ownG g rfl]; simp)))).trans (row_cell hC.row (i := k) (v := .pointer (some ⟨p, 0, none⟩)) (by unfold ptrs; rw [List.getElem?_map, hp]; rfl))
      have hpl := hfrs p (by rw [hs.ownP]; simp)
      have hul := hfrs u (by rw [hs.ownU]; simp)
      have hpc := (hb.block p hpl).trans hs.cell
      obtain ⟨p0, p1, _, _⟩ := three_cells hpc
      have hcap1 := capa_pos HX.out.2.1
      have hxl := HX.out.2.1.len x (List.mem_of_getElem? hx)
      obtain ⟨q, hq⟩ : ∃ q, q = x.us.length := ⟨_, rfl⟩
      have hbo : BoolAt 0 (World.drew wr) (some ⟨u, 0, none⟩) uc x.us := bool_row (row_same hs.row fun z hz => by
        injection hz with hz
        have hz : u = z := hz
        rw [← hz]; exact hb.block u hul)
      have hcl := clone_ok (World.drew wr) (some ⟨u, 0, none⟩) uc x.us (by omega) hbo (by omega)
      rw [← hq] at p1 hcl
      obtain ⟨_, _, _, s3⟩ := four_at hSc
      have sf3 : wr.frozen? ⟨S, 3, none⟩ = false := by simp [World.frozen?, hSc]
      have hSl := lt_of_heap hSc
      have HCl := Lib.hid hcl
      have HJ := Lib.hid (And.intro hZ (And.intro hZb (And.intro hr (And.intro hSc (And.intro hRc (And.intro hb (And.intro hx (And.intro hq hkZ))))))))
      have hplr : p < wr.heap.size := lt_of_heap hpc
      clear hZ hZb hr hSc hRc hb hx hp hs hC hpc hbo hcl hq hkZ hxl hcap1 hfrs
      go_wp2_with (fail)
      have hne : some S ≠ (Value.slice A k cp).ownBlock := fun e => by have := (HJ.out.2.2.1.lt S e.symm).1; omega
      have HNE := Lib.hid hne
      clear hne
      go_region_law (first
        | (go_simp; go_at_call 60; refine HCl.out.mono ?_; rintro _ w5 ⟨A5, c5, rfl, hr5, hb5⟩; have s3' := cell_keep2 (w1 := World.drew wr) hb5 s3; have sf3' : w5.frozen? ⟨S, 3, none⟩ = false := (hb5.frozen (p := ⟨S, 3, none⟩) hSl).trans sf3; have p0' := cell_keep2 (w1 := World.drew wr) hb5 p0; have hlt5 : wr.heap.size ≤ w5.heap.size := hb5.size; have hS5 : S < w5.heap.size := Nat.lt_of_lt_of_le hSl hb5.size; have r3 : (w5.alloc (.cells #[.int .i64 (x.pg : Int), .slice A5 q c5] 90)).cell? ⟨S, 3, none⟩ = some (.slice A k cp) := (World.cell?_alloc_lt w5 _ _ hS5).trans s3'; have rf3 : (w5.alloc (.cells #[.int .i64 (x.pg : Int), .slice A5 q c5] 90)).frozen? ⟨S, 3, none⟩ = false := (World.frozen?_alloc_old w5 _ _ (Nat.ne_of_lt hS5)).trans sf3'; have H5 := Lib.hid (And.intro hr5 hb5); clear hr5 hb5)
        | (refine step_append_lies _ (by rfl) (.tmp 32) (.tmp 43) _ (by rfl) (S + 1) 90 i0 z0 2 32 Try.underlying67 hi0 hz0 hz1 hz2 hz3 (by omega) (.slice A k cp) k (cellsSb Z) (by rfl) ((row_keep (w' := w5) HJ.out.2.2.1 (fun z _ hz => H5.out.2.block z hz)).alloc _) ⟨w5.heap.size, 0, none⟩ 1 1 [.int .i64 (x.pg : Int), .slice A5 q c5] (by rfl) (by rfl) (two_new _ _ _ _) (by simp [Value.oneCell']) (by omega) (by unfold maxLen; omega) (by omega) (by rw [World.size_alloc]; omega) (w5.heap.size + 1) (by simp) ?_; intro g6 cap6 w6 hown6 hgrow6 hat6 hlt6; have v0 : w6.cell? ⟨S, 3, none⟩ = some (.slice A k cp) := (hgrow6.cell_far ⟨_, _, none⟩ (by rw [World.size_alloc]; show S < _; omega) HNE.out).trans ((World.cell?_alloc_lt w5 _ _ (by show S < w5.heap.size; omega)).trans s3'); have v1 : w6.frozen? ⟨S, 3, none⟩ = false := (hgrow6.frozen_far ⟨_, _, none⟩ (by rw [World.size_alloc]; show S < _; omega) HNE.out).trans ((World.frozen?_alloc_old w5 _ _ (by show S ≠ w5.heap.size; omega)).trans sf3'); have H6 := Lib.hid (And.intro hown6 (And.intro hgrow6 hat6)); clear hown6 hgrow6 hat6 hlt6))
      all_goals
        go_wp2_with (fail)
        go_roundw
        case rel =>
          obtain ⟨j1, j2, j3, j4, j5, j6, j7, j8, j9⟩ := HJ.out
          have hst := save_step (W := w6) (Z := Z) (x := x) (A5 := A5) (c5 := c5) (g6 := g6) (cap6 := cap6) HSw.out j9 (HX.out.2.2.2.1 ▸ hlt) j1 j2 j3 j4 j5 j6 j7 (j8 ▸ H5.out.1) ⟨H5.out.2.os, H5.out.2.tape, H5.out.2.output, H5.out.2.size, H5.out.2.block⟩ (j8 ▸ H6.out.1) (j8 ▸ H6.out.2.1) H6.out.2.2
          obtain ⟨m1, m2, m3, m4, m5, m6⟩ := hst
          refine ⟨some ⟨g6, 0, none⟩, cap6, Z ++ [(((x.pg : Int), x.us), (A5, c5))], by rw [List.length_append, List.length_singleton]; omega, by rw [List.length_append, List.length_singleton, ← j9]; go_num, m1, ?_, ?_, ?_, ?_, ?_⟩
          · exact fun z hz => ⟨(m2 z hz).1.keep (Nat.le_refl _) (fun _ _ _ => rfl), fun g hg => by have h8 := (m2 z hz).2 g hg; rw [List.length_append, List.length_singleton, ← j9]; exact ⟨Nat.lt_of_lt_of_eq h8.1 (by first | exact (setCell_size _ _ _).symm | rfl), h8.2⟩⟩
          · exact row_keep m3 (fun _ _ _ => rfl)
          · exact m4
          · exact m5
          · exact ⟨m6.os, m6.tape, m6.output, m6.size, m6.block⟩
        case measure => simp [intOf]; omega
    · obtain rfl : k = n := by omega
      have e1 : ¬ ((k : Nat) : Int) < (k : Int) := by omega
      have hall : Z.map (·.1) = saveS C.sl := by
        rw [hZ, HX.out.2.2.2.1, ← saveS_len C.sl, List.take_length]
      rw [hkZ] at hr
      have hsb := fun (V : World) (hs : wr.heap.size ≤ V.heap.size) (hk : ∀ z, w.heap.size + 1 ≤ z → z < wr.heap.size → V.heap[z]? = wr.heap[z]?) => sb_all hr (fun z hz => (hZb z hz).1) HSw.out V hs hk
      rw [hall] at hsb
      obtain ⟨s0, s1, s2, s3⟩ := four_at hSc
      obtain ⟨q0, q1, q2, q3⟩ := four_at hRc
      have qf : ∀ o, wr.frozen? ⟨w.heap.size, o, none⟩ = false := fun o => by simp [World.frozen?, hRc]
      have qf0 := qf 0
      have qf1 := qf 1
      have qf2 := qf 2
      have qf3 := qf 3
      have hkc : k = C.sl.length := HX.out.2.2.2.1
      have HJ := Lib.hid (And.intro hsb (And.intro hb (And.intro hkZ hRc)))
      clear hZ hZb hr hSc hRc hb hsb hall hkZ qf
      have HKc := Lib.hid hkc
      clear hkc
      go_wp2_with (fail)
      obtain ⟨hsb, hb, hkZ, hRc⟩ := HJ.out
      have hfin := four_set hRc (.int .i64 (C.size : Int)) (.int .i64 (C.order : Int)) (.int .i64 (C.keep : Int)) (.slice A k cp)
      obtain ⟨q4, q5, q6, q7⟩ := four_at hfin
      refine bodyPost_ret (v := stv (C.size : Int) (C.order : Int) (C.keep : Int) A k cp) (by simp [results, Try.results27, go_sem, q4, q5, q6, q7]) rfl ⟨⟨A, cp, by rw [HKc.out], SbAt.low (B := w.heap.size + 1) (Nat.le_succ _) (hsb _ (by rw [setCell_size, setCell_size, setCell_size, setCell_size]; exact Nat.le_refl _) fun z h1 h2 => ?_)⟩, ?_⟩
      · exact (setCell_far _ _ _ _ (by show z ≠ w.heap.size; omega)).trans ((setCell_far _ _ _ _ (by show z ≠ w.heap.size; omega)).trans ((setCell_far _ _ _ _ (by show z ≠ w.heap.size; omega)).trans (setCell_far _ _ _ _ (by show z ≠ w.heap.size; omega))))
      · exact ((((hb.setCell (p := ⟨w.heap.size, 0, none⟩) (Nat.le_refl _) _).setCell (p := ⟨w.heap.size, 1, none⟩) (Nat.le_refl _) _).setCell (p := ⟨w.heap.size, 2, none⟩) (Nat.le_refl _) _).setCell (p := ⟨w.heap.size, 3, none⟩) (Nat.le_refl _) _)
end Sl
end Go.Proofs.Ytlknhbcambdccaa
namespace Go.Proofs.Ytlknhbcambdccaa
open Go.RowKit
namespace Sl
open Bu

/-- A cache that is nil, or was not returned by New or Load. -/
def Dead (w : World) (p : Option Addr) : Prop := p = none ∨ ∃ c, p = some ⟨c, 0, none⟩ ∧ w.cell? ⟨c, 0, none⟩ = some (.pointer none)
theorem Dead.below {w w' : World} {p : Option Addr} (h : Dead w p) (hb : Below w.heap.size w w') : Dead w' p := by
  rcases h with h | ⟨c, h1, h2⟩
  · exact .inl h
  · exact .inr ⟨c, h1, cell_keep2 hb h2⟩
theorem dead_any (w : World) (p : Option Addr) (h : Dead w p) : Calls Try.prog 34 #[.pointer p] w fun e w' => e = .returned (.bool true) ∧ w = w' := by
  rcases h with rfl | ⟨c, rfl, hc⟩
  · exact dead_nil w
  · exact dead_ok w c none hc

set_option maxRecDepth 100000 in
theorem alloc_dead (w : World) (p : Option Addr) (h : Dead w p) : Calls Try.prog 12 #[.pointer p] w fun e w' => e = .returned (.tuple #[.int .i64 0, .int .i64 1]) ∧ Below w.heap.size w w' := by
  have HD := Lib.hid (dead_any w p h)
  clear h
  go_enter Try.func12, Try.ntmps12
  go_wp2_with (go_at_call 34; refine HD.out.mono ?_; rintro e w' ⟨rfl, rfl⟩)
  go_ret2
  exact ⟨rfl, Below.refl _ _⟩
set_option maxRecDepth 100000 in
theorem trim_dead (w : World) (p : Option Addr) (h : Dead w p) : Calls Try.prog 20 #[.pointer p] w fun e w' => e = .returned (.tuple #[.int .i64 0, .int .i64 1]) ∧ Below w.heap.size w w' := by
  have HD := Lib.hid (dead_any w p h)
  clear h
  go_enter Try.func20, Try.ntmps20
  go_wp2_with (go_at_call 34; refine HD.out.mono ?_; rintro e w' ⟨rfl, rfl⟩)
  go_ret2
  exact ⟨rfl, Below.refl _ _⟩
set_option maxRecDepth 100000 in
theorem owner_dead (w : World) (p : Option Addr) (at_ : Int) (h : Dead w p) : Calls Try.prog 13 #[.pointer p, .int .i64 at_] w fun e w' => e = .returned (.tuple #[.int .i64 0, .bool false, .int .i64 1]) ∧ Below w.heap.size w w' := by
  have HD := Lib.hid (dead_any w p h)
  clear h
  go_enter Try.func13, Try.ntmps13
  go_wp2_with (go_at_call 34; refine HD.out.mono ?_; rintro e w' ⟨rfl, rfl⟩)
  exact bodyPost_ret (v := .tuple #[.int .i64 0, .bool false, .int .i64 1]) (by simp [results, Try.results13, go_sem]) rfl ⟨rfl, Below.refl _ _⟩
set_option maxRecDepth 100000 in
theorem objects_dead (w : World) (p : Option Addr) (h : Dead w p) : Calls Try.prog 19 #[.pointer p] w fun e w' => e = .returned (.tuple #[.slice none 0 0, .int .i64 1]) ∧ Below w.heap.size w w' := by
  have HD := Lib.hid (dead_any w p h)
  clear h
  go_enter Try.func19, Try.ntmps19
  go_wp2_with (go_at_call 34; refine HD.out.mono ?_; rintro e w' ⟨rfl, rfl⟩)
  go_ret2
  exact ⟨rfl, Below.refl _ _⟩
set_option maxRecDepth 100000 in
theorem slabs_dead (w : World) (p : Option Addr) (h : Dead w p) : Calls Try.prog 14 #[.pointer p] w fun e w' => e = .returned (.tuple #[.slice none 0 0, .int .i64 1]) ∧ Below w.heap.size w w' := by
  have HD := Lib.hid (dead_any w p h)
  clear h
  go_enter Try.func14, Try.ntmps14
  go_wp2_with (go_at_call 34; refine HD.out.mono ?_; rintro e w' ⟨rfl, rfl⟩)
  go_ret2
  exact ⟨rfl, Below.refl _ _⟩
set_option maxRecDepth 100000 in
theorem capacity_dead (w : World) (p : Option Addr) (h : Dead w p) : Calls Try.prog 29 #[.pointer p] w fun e w' => e = .returned (.tuple #[.int .i64 0, .int .i64 1]) ∧ Below w.heap.size w w' := by
  have HD := Lib.hid (dead_any w p h)
  clear h
  go_enter Try.func29, Try.ntmps29
  go_wp2_with (go_at_call 34; refine HD.out.mono ?_; rintro e w' ⟨rfl, rfl⟩)
  go_ret2
  exact ⟨rfl, Below.refl _ _⟩
set_option maxRecDepth 100000 in
theorem free_dead (w : World) (p : Option Addr) (at_ : Int) (h : Dead w p) : Calls Try.prog 11 #[.pointer p, .int .i64 at_] w fun e w' => e = .returned (.int .i64 1) ∧ Below w.heap.size w w' := by
  have HD := Lib.hid (fun W : World => fun hW : Below w.heap.size w W => dead_any W p (h.below hW))
  clear h
  go_enter Try.func11, Try.ntmps11
  go_wp2_with (go_at_call 34; refine (HD.out _ (below_box _ _)).mono ?_; rintro e w' ⟨rfl, rfl⟩)
  go_ret
  exact ⟨rfl, below_box _ _⟩
set_option maxRecDepth 100000 in
set_option maxHeartbeats 1000000 in
theorem save_dead (w : World) (p : Option Addr) (h : Dead w p) : Calls Try.prog 27 #[.pointer p] w fun e w' => e = .returned (stv 0 0 0 none 0 0) ∧ Below w.heap.size w w' := by
  obtain ⟨W1, hW1⟩ : ∃ W1, W1 = w.alloc (.cells #[.int .i64 0, .int .i64 0, .int .i64 0, .slice none 0 0] 69) := ⟨_, rfl⟩
  have hb1 : Below w.heap.size w W1 := by rw [hW1]; exact below_box w _
  have hR1 : W1.heap[w.heap.size]? = some (.cells #[.int .i64 0, .int .i64 0, .int .i64 0, .slice none 0 0] 69 (0, 0)) := by rw [hW1, heapAlloc, if_pos rfl]
  have HD := Lib.hid (dead_any W1 p (h.below hb1))
  have HW := Lib.hid hW1
  obtain ⟨q0, q1, q2, q3⟩ := four_at hR1
  have qf : ∀ o, W1.frozen? ⟨w.heap.size, o, none⟩ = false := fun o => by simp [World.frozen?, hR1]
  have qf0 := qf 0
  have qf1 := qf 1
  have qf2 := qf 2
  have qf3 := qf 3
  have HX := Lib.hid (And.intro hb1 hR1)
  clear h hW1 hb1 hR1 qf
  go_enter Try.func27, Try.ntmps27
  go_wp2_with (go_at_call 34; fail)
  rw [← HW.out]
  refine HD.out.mono ?_
  rintro _ w' ⟨rfl, rfl⟩
  go_wp2_with (fail)
  have hfin := four_set HX.out.2 (.int .i64 0) (.int .i64 0) (.int .i64 0) (.slice none 0 0)
  obtain ⟨q4, q5, q6, q7⟩ := four_at hfin
  refine bodyPost_ret (v := stv 0 0 0 none 0 0) (by simp [results, Try.results27, go_sem, q4, q5, q6, q7]) rfl ⟨rfl, ?_⟩
  exact ((((HX.out.1.setCell (p := ⟨w.heap.size, 0, none⟩) (Nat.le_refl _) _).setCell (p := ⟨w.heap.size, 1, none⟩) (Nat.le_refl _) _).setCell (p := ⟨w.heap.size, 2, none⟩) (Nat.le_refl _) _).setCell (p := ⟨w.heap.size, 3, none⟩) (Nat.le_refl _) _)
end Sl
end Go.Proofs.Ytlknhbcambdccaa
namespace Go.Proofs.Ytlknhbcambdccaa
open Go.RowKit
namespace Sl
open Bu

theorem two_first (w : World) (x y : Array Value × TypeId) (_ : Unit) : ((w.alloc (.cells x.1 x.2)).alloc (.cells y.1 y.2)).drew.heap[w.heap.size]? = some (.cells x.1 x.2 (0, 0)) := by
  show ((w.alloc _).alloc _).heap[w.heap.size]? = _
  rw [alloc_old _ _ _ (by simp), heapAlloc, if_pos rfl]
theorem two_second (w : World) (x y : Array Value × TypeId) (_ : Unit) : ((w.alloc (.cells x.1 x.2)).alloc (.cells y.1 y.2)).drew.heap[w.heap.size + 1]? = some (.cells y.1 y.2 (0, 0)) := by
  show ((w.alloc _).alloc _).heap[w.heap.size + 1]? = _
  rw [heapAlloc, if_pos (by simp)]
theorem two_below (w : World) (o1 o2 : Obj) (_ : Unit) : Below w.heap.size w ((w.alloc o1).alloc o2).drew := ((below_box w o1).alloc (by simp) o2).drew

set_option maxRecDepth 100000 in
set_option maxHeartbeats 8000000 in
theorem sameS_ok (w : World) (s o kp : Int) (A A' : Option Addr) (c c' : Nat) (l : List (Int × List Bool)) (h1 : SbAt 0 w A c l) (h2 : SbAt 0 w A' c' l) :
    Calls Try.prog 28 #[stv s o kp A l.length c, stv s o kp A' l.length c'] w fun e w' => e = .returned (.bool true) ∧ Below w.heap.size w w' := by
  obtain ⟨W1, hW1⟩ : ∃ W1, W1 = (w.alloc (.cells #[.int .i64 s, .int .i64 o, .int .i64 kp, .slice A l.length c] 69)).alloc (.cells #[.int .i64 s, .int .i64 o, .int .i64 kp, .slice A' l.length c'] 69) := ⟨_, rfl⟩
  have hb1 : Below w.heap.size w W1 := by rw [hW1]; exact (below_box w _).alloc (by simp) _
  have hs1 : W1.heap.size = w.heap.size + 2 := by rw [hW1]; simp
  have hA1 : W1.heap[w.heap.size]? = some (.cells #[.int .i64 s, .int .i64 o, .int .i64 kp, .slice A l.length c] 69 (0, 0)) := by
    rw [hW1, alloc_old _ _ _ (by simp), heapAlloc, if_pos rfl]
  have hB1 : W1.heap[w.heap.size + 1]? = some (.cells #[.int .i64 s, .int .i64 o, .int .i64 kp, .slice A' l.length c'] 69 (0, 0)) := by
    rw [hW1, heapAlloc, if_pos (by simp)]
  obtain ⟨B, hB⟩ : ∃ B, B = w.heap.size + 1 := ⟨_, rfl⟩
  rw [← hB] at hB1
  obtain ⟨a0, a1, a2, a3⟩ := four_at hA1
  obtain ⟨b0, b1, b2, b3⟩ := four_at hB1
  have hl1 := h1.1
  have hl2 := h2.1
  have hc1 := h1.2.1
  have hc2 := h2.2.1
  unfold maxLen at hc1 hc2
  obtain ⟨n, hn⟩ : ∃ n, n = l.length := ⟨_, rfl⟩
  have HX := Lib.hid (And.intro hb1 (And.intro hs1 (And.intro hA1 (And.intro hB1 (And.intro (h1.below hb1) (And.intro (h2.below hb1) (And.intro hB hn)))))))
  rw [← hn] at hW1
  have HW := Lib.hid hW1
  rw [← hn] at hl1 hl2 a3 b3 ⊢
  have HB := Lib.hid hB
  clear h1 h2 hb1 hs1 hA1 hB1 hW1 hB hn
  go_enter Try.func28, Try.ntmps28
  go_wp2_with (fail)
  rw [← HW.out, ← HB.out]
  go_loopw [5] (fun i wr => ∃ k : Nat, k ≤ n ∧ i = .int .i64 (k : Int) ∧ Below W1.heap.size W1 wr) (fun i _ => n - (intOf i).toNat)
  case atStart => exact ⟨0, Nat.zero_le _, rfl, Below.refl _ _⟩
  case round =>
    obtain ⟨k, hk, rfl, hb⟩ := hrel
    have e0 : (0 : Int) ≤ (k : Int) := by omega
    have hBs : B < W1.heap.size := by have := HX.out.2.1; have := HB.out; omega
    have hAs : w.heap.size < W1.heap.size := by have := HX.out.2.1; omega
    replace a3 := (hb.cell (p := ⟨w.heap.size, 3, none⟩) hAs).trans a3
    replace b3 := (hb.cell (p := ⟨B, 3, none⟩) hBs).trans b3
    by_cases hlt : k < n
    · have e1 : (k : Int) < (n : Int) := by omega
      have hkk : IntKind.i64.wrap ((k : Int) + 1) = ((k + 1 : Nat) : Int) := by rw [IntWalk.i64_in _ (by omega)]; rfl
      obtain ⟨⟨pg, us⟩, hx⟩ : ∃ x, l[k]? = some x := ⟨_, List.getElem?_eq_getElem (by have := HX.out.2.2.2.2.2.2.2; omega)⟩
      obtain ⟨g1, o1, U1, cu1, rfl, _, hg1, d0, d1, hU1⟩ := (HX.out.2.2.2.2.1).2.2 k _ hx
      obtain ⟨g2, o2, U2, cu2, rfl, _, hg2, f0, f1, hU2⟩ := (HX.out.2.2.2.2.2.1).2.2 k _ hx
      dsimp only at d0 d1 f0 f1 hU1 hU2
      replace d0 := (hb.cell (p := ⟨g1, o1 + k * 2, none⟩) hg1).trans d0
      replace d1 := (hb.cell (p := ⟨g1, o1 + k * 2 + 1, none⟩) hg1).trans d1
      replace f0 := (hb.cell (p := ⟨g2, o2 + k * 2, none⟩) hg2).trans f0
      replace f1 := (hb.cell (p := ⟨g2, o2 + k * 2 + 1, none⟩) hg2).trans f1
      have hm1 := hU1.1
      have hm2 := hU2.1
      have hx1 := hU1.2.1
      have hx2 := Nat.le_trans hU2.1 hU2.2.1
      unfold maxLen at hx1 hx2
      obtain ⟨q, hq⟩ : ∃ q, q = us.length := ⟨_, rfl⟩
      rw [← hq] at d1 f1 hm1 hm2 hx2
      have hbs := hb.size
      have z1 : g1 < wr.heap.size := by omega
      have z2 : g2 < wr.heap.size := by omega
      have z3 : B < wr.heap.size := by omega
      have z4 : w.heap.size < wr.heap.size := by omega
      have y1 : g1 < wr.heap.size + 1 := by omega
      have y2 : g2 < wr.heap.size + 1 := by omega
      have y3 : B < wr.heap.size + 1 := by omega
      have y4 : w.heap.size < wr.heap.size + 1 := by omega
      have HJ := Lib.hid (And.intro hb (And.intro hU1 (And.intro hU2 hq)))
      clear hb hx hU1 hU2 hq
      go_upto_region 6 with (fail)
      go_cut [6, 7] from 43 to 54 (fun u v wx => ∃ b6 b7, u = .pointer (some ⟨b6, 0, none⟩) ∧ v = .pointer (some ⟨b7, 0, none⟩) ∧ wx.heap[b6]? = some (.cells #[.int .i64 pg, .slice U1 q cu1] 90 (0, 0)) ∧ wx.heap[b7]? = some (.cells #[.int .i64 pg, .slice U2 q cu2] 90 (0, 0)) ∧ Below wr.heap.size wr wx)
      case first =>
        go_region
        all_goals
          go_wp2_with (fail)
          go_meet
          refine ⟨_, _, rfl, rfl, ?_, ?_, ?_⟩
          all_goals first | exact two_first wr (_, _) (_, _) () | exact two_second wr (_, _) (_, _) () | exact two_below _ _ _ ()
      case rest =>
        obtain ⟨b6, b7, rfl, rfl, hc6, hc7, hbc⟩ := hcut
        obtain ⟨x0, x1, -, -⟩ := Bu.two_cells hc6
        obtain ⟨y0, y1, -, -⟩ := Bu.two_cells hc7
        have HC := Lib.hid (And.intro hc6 (And.intro hc7 hbc))
        clear hc6 hc7 hbc
        go_wp2_with (fail)
        go_loopw [8] (fun i wx => ∃ t : Nat, t ≤ q ∧ i = .int .i64 (t : Int) ∧ ∃ d, wx = wc.drewN d) (fun i _ => q - (intOf i).toNat)
        case atStart => exact ⟨0, Nat.zero_le _, rfl, 0, rfl⟩
        case round =>
          obtain ⟨t, ht, rfl, d, hwx⟩ := hrel
          have e2 : (0 : Int) ≤ (t : Int) := by omega
          replace x1 : wr.cell? ⟨b6, 1, none⟩ = some (.slice U1 q cu1) := by rw [hwx]; exact x1
          replace y1 : wr.cell? ⟨b7, 1, none⟩ = some (.slice U2 q cu2) := by rw [hwx]; exact y1
          by_cases hlt2 : t < q
          · have e3 : (t : Int) < (q : Int) := by omega
            have htt : IntKind.i64.wrap ((t : Int) + 1) = ((t + 1 : Nat) : Int) := by rw [IntWalk.i64_in _ (by omega)]; rfl
            obtain ⟨v, hv⟩ : ∃ v, us[t]? = some v := ⟨_, List.getElem?_eq_getElem (by have := HJ.out.2.2.2; omega)⟩
            obtain ⟨gu, ou, rfl, _, hgu, p0⟩ := HJ.out.2.1.2.2 t v hv
            obtain ⟨gv, ov, rfl, _, hgv, p1⟩ := HJ.out.2.2.1.2.2 t v hv
            have hb12 : Below W1.heap.size W1 wc := HJ.out.1.trans (HC.out.2.2.mono HJ.out.1.size)
            replace p0 : wr.cell? ⟨gu, ou + t, none⟩ = some (.bool v) := by rw [hwx]; exact (hb12.cell (p := ⟨gu, ou + t, none⟩) hgu).trans p0
            replace p1 : wr.cell? ⟨gv, ov + t, none⟩ = some (.bool v) := by rw [hwx]; exact (hb12.cell (p := ⟨gv, ov + t, none⟩) hgv).trans p1
            have HR := Lib.hid hwx
            have hvv : (v != v) = false := by cases v <;> rfl
            clear hwx hv hb12
            go_wp2_with (fail)
            go_quiet (fail)
            go_wp2
            go_roundw
            case rel => exact ⟨t + 1, by omega, by go_num, _, by rw [HR.out]; exact World.drewN_drewN ..⟩
            case measure => simp [intOf]; omega
          · obtain rfl : t = q := by omega
            have e3 : ¬ ((t : Nat) : Int) < (t : Int) := by omega
            have HR := Lib.hid hwx
            clear hwx
            go_wp2
            go_roundw
            case rel => exact ⟨k + 1, by omega, by go_num, by rw [HR.out]; exact below_drewN (HJ.out.1.trans (HC.out.2.2.mono HJ.out.1.size)) _⟩
            case measure => simp [intOf]; omega
    · obtain rfl : k = n := by omega
      have e1 : ¬ ((k : Nat) : Int) < (k : Int) := by omega
      have HJ := Lib.hid hb
      clear hb
      go_wp2
      go_ret
      exact ⟨rfl, below_step HX.out.1 HJ.out (Nat.le_refl _)⟩
end Sl
end Go.Proofs.Ytlknhbcambdccaa
namespace Go.Proofs.Ytlknhbcambdccaa
open Go.RowKit
namespace Sl
open Bu

set_option maxRecDepth 100000 in
set_option maxHeartbeats 1000000 in
theorem newC_not (w : World) (p : Option Addr) (h : IsNot w p) (size order keep : Int) :
    Calls Try.prog 16 #[.pointer p, .int .i64 size, .int .i64 order, .int .i64 keep] w fun e w' => e = .returned (.tuple #[.pointer none, .int .i64 1]) ∧ w = w' := by
  have HB := Lib.hid (blocks_not w p h)
  clear h
  go_enter Try.func16, Try.ntmps16
  go_wp2_with (go_at_call 45; refine HB.out.mono ?_; rintro _ w' ⟨rfl, rfl⟩)
  go_ret2
  exact ⟨rfl, rfl⟩

set_option maxRecDepth 100000 in
set_option maxHeartbeats 1000000 in
theorem loadC_not (w : World) (p : Option Addr) (h : IsNot w p) (size order keep : Int) (A : Option Addr) (n c : Nat) :
    Calls Try.prog 30 #[.pointer p, stv size order keep A n c] w fun e w' => e = .returned (.tuple #[.pointer none, .int .i64 1]) ∧ Below w.heap.size w w' := by
  obtain ⟨W1, hW1⟩ : ∃ W1, W1 = w.alloc (.cells #[.int .i64 size, .int .i64 order, .int .i64 keep, .slice A n c] 69) := ⟨_, rfl⟩
  have hb1 : Below w.heap.size w W1 := by rw [hW1]; exact below_box w _
  have hR1 : W1.heap[w.heap.size]? = some (.cells #[.int .i64 size, .int .i64 order, .int .i64 keep, .slice A n c] 69 (0, 0)) := by rw [hW1, heapAlloc, if_pos rfl]
  obtain ⟨q0, q1, q2, q3⟩ := four_at hR1
  have HN := Lib.hid (newC_not W1 p (h.below hb1) size order keep)
  have HW := Lib.hid hW1
  have HX := Lib.hid hb1
  clear h hb1 hR1 hW1
  go_enter Try.func30, Try.ntmps30
  go_wp2_with (fail)
  rw [← HW.out]
  go_wp2_with (go_at_call 16; fail)
  refine HN.out.mono ?_
  rintro _ w' ⟨rfl, rfl⟩
  go_wp2
  go_ret2
  exact ⟨rfl, HX.out⟩
end Sl
end Go.Proofs.Ytlknhbcambdccaa
