/- A tree, and the reference's state beside it. A call on both: Rewind, End, asks, Owner. The calls on a tree that is nil. -/
import Derived.Test.YtllmddhahpegmaaM23
import Derived.Test.YtllmddhahpegmaaM9
import Derived.Test.YtllmddhahpegmaaM13
namespace Go.Proofs.Ytllmddhahpegmaa
open Go.RowKit
namespace Ne

/-- The blocks that the reference's state may have. -/
def Kb (w0 : World) (own : Ow) (bs : Nat) (b : Nat) : Prop := own b = none ∧ b ≠ bs ∧ w0.heap.size ≤ b

structure Duo (w0 w : World) (own : Ow) (t : Nat) (M S : Tr) (bs : Nat) : Prop where
  held : Held w0 w own t M
  nown : own bs = none
  lo : w0.heap.size ≤ bs
  st : ∃ g cap cur zs, w.heap[bs]? = some (.cells #[.slice (some ⟨g, 0, none⟩) S.length cap] 28 (0, 0)) ∧ Cop (Kb w0 own bs) w g cap cur zs ∧ zs.map (·.x) = save S

theorem Duo.tree {w0 w w' : World} {own own' : Ow} {t : Nat} {M M' S : Tr} {bs : Nat} (h : Duo w0 w own t M S bs) (hH : Held w0 w' own' t M') (hK : Keeps own own' w w') : Duo w0 w' own' t M' S bs := by
  obtain ⟨g, cap, cur, zs, hb, hC, hs⟩ := h.st
  have hbl := lt_of_heap hb
  refine ⟨hH, (hK.same bs hbl).trans h.nown, h.lo, g, cap, cur, zs, (hK.block bs hbl h.nown).trans hb, hC.keep fun b hb hl => ⟨hK.block b hl hb.1, (hK.same b hl).trans hb.1, hb.2⟩, hs⟩

theorem Duo.bel {w0 w w' : World} {own : Ow} {t : Nat} {M S : Tr} {bs : Nat} (h : Duo w0 w own t M S bs) (hb : Below w.heap.size w w') : Duo w0 w' own t M S bs := by
  obtain ⟨g, cap, cur, zs, h1, hC, hs⟩ := h.st
  exact ⟨h.held.of_below hb, h.nown, h.lo, g, cap, cur, zs, (hb.block bs (lt_of_heap h1)).trans h1, hC.below hb, hs⟩

theorem Duo.lt {w0 w : World} {own : Ow} {t : Nat} {M S : Tr} {bs : Nat} (h : Duo w0 w own t M S bs) : bs < w.heap.size := by
  obtain ⟨g, cap, cur, zs, h1, hC, hs⟩ := h.st
  exact lt_of_heap h1

/-- A new state is stored. -/
theorem Duo.put {w0 w1 w : World} {own : Ow} {t : Nat} {M S S' : Tr} {bs : Nat} (h : Duo w0 w1 own t M S bs) (hb : Below w1.heap.size w1 w) {K : Nat → Prop} (hK : ∀ b, K b → Kb w0 own bs b ∨ w1.heap.size ≤ b) {g cap : Nat} {cur : Array Value} {zs : List SZ} (hC : Cop K w g cap cur zs) (hs : zs.map (·.x) = save S') :
    Duo w0 (w.setCell ⟨bs, 0, none⟩ (.slice (some ⟨g, 0, none⟩) S'.length cap)) own t M S' bs := by
  have h' := h.bel hb
  have hlt := h.lt
  have hbs := hb.size
  obtain ⟨g0, cap0, cur0, zs0, h1, hC0, hs0⟩ := h'.st
  obtain ⟨gt, capt, cst, hT⟩ := h'.held.tree
  have hfr := h.held.fresh
  have hlo1 := h.held.below.size
  have hK' : ∀ b, K b → Kb w0 own bs b := fun b hb => by
    rcases hK b hb with h2 | h2
    · exact h2
    · refine ⟨?_, by omega, by omega⟩
      cases e : own b with
      | none => rfl
      | some v => exact absurd (hfr b (by rw [e]; simp)) (by omega)
  refine ⟨⟨⟨gt, capt, cst, hT.same fun k hk hl => ⟨setCell_far _ _ _ _ (by show k ≠ bs; intro e; rw [e, h.nown] at hk; exact hk rfl), rfl⟩⟩, h'.held.good, fun k hk => by rw [setCell_size]; exact h'.held.fresh k hk, h'.held.low, h'.held.below.setCell (by show w0.heap.size ≤ bs; exact h.lo) _⟩, h.nown, h.lo, g, cap, cur, zs, ?_, ?_, hs⟩
  · rw [setCell_at _ _ _ _ _ _ h1]; rfl
  · exact hC.keep fun b hb _ => ⟨setCell_far _ _ _ _ (hK' b hb).2.1, hK' b hb⟩

/-- The cells that a region with a call of the reference reads. -/
def DoS (w8 : World) (bs bx : Nat) (v : Value) (x : Cl) (w' : World) : Prop :=
  Below w8.heap.size w8 w' ∧ w'.cell? ⟨bs, 0, none⟩ = some v ∧ w'.frozen? ⟨bs, 0, none⟩ = false ∧ w'.cell? ⟨bx, 1, none⟩ = some (.int .i64 x.node) ∧ w'.cell? ⟨bx, 2, none⟩ = some (.int .i64 x.items) ∧ w'.cell? ⟨bx, 3, none⟩ = some (.int .i64 x.size) ∧ w'.cell? ⟨bx, 4, none⟩ = some (.int .i64 x.align)
theorem DoS.of {w : World} {bs bx : Nat} {v : Value} {x : Cl} (h1 : w.heap[bs]? = some (.cells #[v] 28 (0, 0))) (h2 : w.heap[bx]? = some (.cells #[.int .u8 x.what, .int .i64 x.node, .int .i64 x.items, .int .i64 x.size, .int .i64 x.align] 49 (0, 0))) : DoS w bs bx v x w := by
  refine ⟨Below.refl _ _, ?_, ?_, ?_, ?_, ?_, ?_⟩ <;> simp [World.cell?, World.frozen?, h1, h2]
theorem DoS.below {w8 w1 w2 : World} {bs bx : Nat} {v : Value} {x : Cl} (h : DoS w8 bs bx v x w1) (hb : Below w1.heap.size w1 w2) : DoS w8 bs bx v x w2 := by
  obtain ⟨a, b, c, d, e, f, g⟩ := h
  have hl := World.block_lt_of_cell? w1 _ b
  have hx := World.block_lt_of_cell? w1 _ d
  exact ⟨a.trans (hb.mono a.size), (hb.cell (p := ⟨bs, 0, none⟩) hl).trans b, (hb.frozen (p := ⟨bs, 0, none⟩) hl).trans c, (hb.cell (p := ⟨bx, 1, none⟩) hx).trans d, (hb.cell (p := ⟨bx, 2, none⟩) hx).trans e, (hb.cell (p := ⟨bx, 3, none⟩) hx).trans f, (hb.cell (p := ⟨bx, 4, none⟩) hx).trans g⟩

theorem DoS.setB {w8 w1 : World} {bs bx : Nat} {v u : Value} {x : Cl} (h : DoS w8 bs bx v x w1) (hb : bs < w8.heap.size) (hx : bx < w8.heap.size) : DoS w8 bs bx v x (w1.setCell ⟨w8.heap.size, 0, none⟩ u) := by
  obtain ⟨a, b, c, d, e, f, g⟩ := h
  have k1 : ∀ o, (w1.setCell ⟨w8.heap.size, 0, none⟩ u).cell? ⟨bs, o, none⟩ = w1.cell? ⟨bs, o, none⟩ := fun o => World.cell?_of_block (a := ⟨bs, o, none⟩) (setCell_far _ _ _ _ (by show bs ≠ w8.heap.size; omega))
  have k2 : ∀ o, (w1.setCell ⟨w8.heap.size, 0, none⟩ u).cell? ⟨bx, o, none⟩ = w1.cell? ⟨bx, o, none⟩ := fun o => World.cell?_of_block (a := ⟨bx, o, none⟩) (setCell_far _ _ _ _ (by show bx ≠ w8.heap.size; omega))
  have k3 : (w1.setCell ⟨w8.heap.size, 0, none⟩ u).frozen? ⟨bs, 0, none⟩ = w1.frozen? ⟨bs, 0, none⟩ := by
    simp only [World.frozen?]
    rw [setCell_far _ _ _ _ (by show bs ≠ w8.heap.size; omega)]
  exact ⟨a.setCell (p := ⟨w8.heap.size, 0, none⟩) (Nat.le_refl _) _, (k1 0).trans b, k3.trans c, (k2 1).trans d, (k2 2).trans e, (k2 3).trans f, (k2 4).trans g⟩

/-- What the reference's call leaves, its state in a box. -/
def DoC (w0 w2 : World) (own2 : Ow) (bs bx : Nat) (v0 : Value) (x : Cl) (M' : Tr) (u : Value) (wx : World) : Prop :=
  ∃ bu g' cap' cur' zs', u = .pointer (some ⟨bu, 0, none⟩) ∧ w2.heap.size ≤ bu ∧ wx.heap[bu]? = some (.cells #[.slice (some ⟨g', 0, none⟩) M'.length cap'] 28 (0, 0)) ∧ DoS w2 bs bx v0 x wx ∧ Cop (fun b => Kb w0 own2 bs b ∨ w2.heap.size ≤ b) wx g' cap' cur' zs' ∧ zs'.map (·.x) = save M'

theorem Cop.strong {K : Nat → Prop} {w : World} {g cap : Nat} {cur : Array Value} {zs : List SZ} (h : Cop K w g cap cur zs) : Cop (fun b => K b ∧ b < w.heap.size) w g cap cur zs :=
  ⟨⟨h.low, lt_of_heap h.row⟩, h.row, h.size, h.len, h.most, h.cells, h.rows, fun i z b hz hb => ⟨h.own i z b hz hb, ((h.rows i z hz).lt b hb).2⟩, h.apart⟩

theorem DoC.one {w0 w2 w3 w4 : World} {own2 : Ow} {bs bx : Nat} {v0 : Value} {x : Cl} {M' : Tr} {g' cap' : Nat} {cur' : Array Value} {zs' : List SZ} (h3 : w2.heap.size ≤ w3.heap.size) (hS : DoS w2 bs bx v0 x w4) (hC : Cop (fun b => (Kb w0 own2 bs b ∧ b < w2.heap.size) ∨ w3.heap.size ≤ b) w4 g' cap' cur' zs') (hs : zs'.map (·.x) = save M') :
    DoC w0 w2 own2 bs bx v0 x M' (.pointer (some ⟨w4.heap.size, 0, none⟩)) (w4.alloc (.cells #[.slice (some ⟨g', 0, none⟩) M'.length cap'] 28)) := by
  have hsz := hS.1.size
  refine ⟨_, g', cap', cur', zs', rfl, hsz, heap_alloc_new _ _, hS.below (below_box _ _), ?_, hs⟩
  exact hC.keep fun b hb hl => ⟨alloc_old _ _ _ hl, hb.imp (fun h => h.1) fun h => by omega⟩

theorem DoC.two {w0 w2 w3 w4 : World} {own2 : Ow} {bs bx : Nat} {v0 z : Value} {x : Cl} {M' : Tr} {g' cap' : Nat} {cur' : Array Value} {zs' : List SZ} (h3 : w2.heap.size + 1 ≤ w3.heap.size) (hbu : w4.heap[w2.heap.size]? = some (.cells #[z] 28 (0, 0))) (hb : bs < w2.heap.size) (hx : bx < w2.heap.size) (hS : DoS w2 bs bx v0 x w4) (hC : Cop (fun b => (Kb w0 own2 bs b ∧ b < w2.heap.size) ∨ w3.heap.size ≤ b) w4 g' cap' cur' zs') (hs : zs'.map (·.x) = save M') :
    DoC w0 w2 own2 bs bx v0 x M' (.pointer (some ⟨w2.heap.size, 0, none⟩)) (w4.setCell ⟨w2.heap.size, 0, none⟩ (.slice (some ⟨g', 0, none⟩) M'.length cap')) := by
  refine ⟨_, g', cap', cur', zs', rfl, Nat.le_refl _, by rw [setCell_at _ _ _ _ _ _ hbu]; rfl, hS.setB hb hx, ?_, hs⟩
  exact hC.keep fun b hb hl => ⟨setCell_far _ _ _ _ (by
    show b ≠ w2.heap.size
    rcases hb with h | h
    · omega
    · omega), hb.imp (fun h => h.1) fun h => by omega⟩

/-- What a call on both leaves. -/
def DoPost (w0 : World) (t bs : Nat) (e : Ending) (w' : World) : Prop := e = .returned (.bool true) ∧ ∃ own' M', Duo w0 w' own' t M' M' bs

def xBox (x : Cl) : Obj := .cells #[.int .u8 x.what, .int .i64 x.node, .int .i64 x.items, .int .i64 x.size, .int .i64 x.align] 49

theorem fresh_none {own : Ow} {w : World} (h : Fresh own w) : own w.heap.size = none := by
  cases e : own w.heap.size with
  | none => rfl
  | some v => exact absurd (h _ (by rw [e]; simp)) (by omega)

set_option maxRecDepth 100000 in
set_option maxHeartbeats 2000000 in
theorem do_begin (w0 w : World) (own : Ow) (t : Nat) (M : Tr) (bs : Nat) (x : Cl) (h : Duo w0 w own t M M bs) (y0 : 0 ≤ x.what) (y1 : x.what ≤ 255) (hc : x.what % 8 = 3) :
    Calls Try.prog 28 #[.pointer (some ⟨t, 0, none⟩), .pointer (some ⟨bs, 0, none⟩), .agg #[.int .u8 x.what, .int .i64 x.node, .int .i64 x.items, .int .i64 x.size, .int .i64 x.align]] w (DoPost w0 t bs) := by
  have b3 : (x.what % 8 == 3) = true := by rw [beq_iff_eq]; exact hc
  clear hc
  have hX := h.bel (below_box w (xBox x))
  obtain ⟨M', a, b, he⟩ : ∃ M' a b, begin_ M x.node x.size x.align = (M', a, b) := ⟨_, _, _, rfl⟩
  have HK1 := Lib.hid (kp_begin hX.held x.node x.size x.align he)
  have hxb : (w.alloc (xBox x)).heap[w.heap.size]? = some (.cells #[.int .u8 x.what, .int .i64 x.node, .int .i64 x.items, .int .i64 x.size, .int .i64 x.align] 49 (0, 0)) := heap_alloc_new w _
  have hn := fresh_none h.held.fresh
  have hG := h.held.good
  have hbl := h.lt
  have hl0 := h.held.below.size
  have HX := Lib.hid (And.intro hX (And.intro hxb (And.intro hn (And.intro hG he))))
  have hs0 : (w.alloc (xBox x)).heap.size = w.heap.size + 1 := by unfold xBox; simp
  clear h hX hxb hn hG he
  go_enter Try.func28, Try.ntmps28
  go_wp2_with (go_at_call 22; fail)
  have hW : w.alloc (.cells #[.int .u8 x.what, .int .i64 x.node, .int .i64 x.items, .int .i64 x.size, .int .i64 x.align] 49) = w.alloc (xBox x) := rfl
  rw [hW]
  clear hW
  generalize w.alloc (xBox x) = W0 at *
  refine HK1.out.mono ?_
  rintro e w2 ⟨own2, rfl, hH2, hK2⟩
  have hD2 := HX.out.1.tree hH2 hK2
  have hs2 := hK2.size
  have hx2 := (hK2.block _ (show w.heap.size < W0.heap.size by omega) HX.out.2.2.1).trans HX.out.2.1
  obtain ⟨g, cap, cur, zs, hbs2, hC2, hz2⟩ := hD2.st
  have S0 := DoS.of hbs2 hx2
  have S1 := S0.below ((Below.refl _ _).drew)
  have S2 := S0.below ((below_box w2 (.cells #[.slice none 0 0] 28)).drew)
  have HR := Lib.hid (fun w3 (hb : Below w2.heap.size w2 w3) => beginR_ok _ w3 g cap cur zs M x.node x.size x.align (hC2.strong.below hb) hz2 HX.out.2.2.2.1)
  rw [HX.out.2.2.2.2] at HR
  have H2 := Lib.hid hD2
  have hbl2 : bs < w2.heap.size := by omega
  have hxl2 : w.heap.size < w2.heap.size := by omega
  clear hH2 hK2 hD2 hx2 hbs2 hC2 hz2 HK1 HX
  unfold DoS at S0 S1 S2
  have g1 : (a == a) = true := by simp
  have g2 : (b == b) = true := by simp
  go_upto_region 4 with (fail)
  go_cut [9, 10, 11] from 43 to 56 (fun u v s wx => v = .int .i64 a ∧ s = .int .i64 b ∧ DoC w0 w2 own2 bs w.heap.size (.slice (some ⟨g, 0, none⟩) M.length cap) x M' u wx)
  case first =>
    go_region_held3 (fun w' => Below w2.heap.size w2 w' ∧ w'.cell? ⟨bs, 0, none⟩ = some (.slice (some ⟨g, 0, none⟩) M.length cap) ∧ w'.frozen? ⟨bs, 0, none⟩ = false ∧ w'.cell? ⟨w.heap.size, 1, none⟩ = some (.int .i64 x.node) ∧ w'.cell? ⟨w.heap.size, 2, none⟩ = some (.int .i64 x.items) ∧ w'.cell? ⟨w.heap.size, 3, none⟩ = some (.int .i64 x.size) ∧ w'.cell? ⟨w.heap.size, 4, none⟩ = some (.int .i64 x.align))
      (first | exact S1 | exact S2 | exact S4.out | exact S4.out.below (below_box _ _) | exact S4.out.below ((below_box _ _).setCell (Nat.le_refl _) _) | exact S4.out.setB hbl2 hxl2 | go_keep)
      (first | (go_at_call 45; refine (HR.out _ (And.left (by assumption))).mono ?_; rintro e w4 ⟨⟨g', cap', cur', zs', rfl, hC4, hs4⟩, hb4⟩; have S4 := Lib.hid (DoS.below (show DoS w2 bs w.heap.size (.slice (some ⟨g, 0, none⟩) M.length cap) x _ by first | exact S1 | exact S2) hb4); have H4 := Lib.hid (And.intro hC4 (And.intro hs4 hb4)); try (have hzz := (hb4.block w2.heap.size (by show w2.heap.size < (w2.alloc _).heap.size; simp)).trans (show (w2.alloc (.cells #[.slice none 0 0] 28)).drew.heap[w2.heap.size]? = some (.cells #[.slice none 0 0] 28 (0, 0)) from heap_alloc_new w2 _); obtain ⟨zz0, zz1⟩ := one_cell hzz; clear hzz); clear hC4 hs4 hb4))
    all_goals
      go_wp2_with (fail)
      go_meet
      refine ⟨rfl, rfl, ?_⟩
      first
        | exact DoC.one (w3 := w2.drew) (Nat.le_refl _) S4.out H4.out.1 H4.out.2.1
        | exact DoC.two (w3 := (w2.alloc (.cells #[.slice none 0 0] 28)).drew) (z := .slice none 0 0) (by show w2.heap.size + 1 ≤ (w2.alloc _).heap.size; simp) ((H4.out.2.2.block _ (by show w2.heap.size < (w2.alloc _).heap.size; simp)).trans (heap_alloc_new w2 _)) hbl2 hxl2 S4.out H4.out.1 H4.out.2.1
  case rest =>
    obtain ⟨rfl, rfl, bu, g', cap', cur', zs', rfl, hlo, hbu, hS, hC, hs⟩ := hcut
    obtain ⟨u0, _⟩ := one_cell hbu
    have hfin := H2.out.put hS.1 (fun b hb => hb) hC hs
    have HF := Lib.hid hfin
    obtain ⟨hSb, c0, c1, _, _, _, _⟩ := hS
    have HS := Lib.hid hSb
    clear hfin hC hs hbu hSb S0 S1 S2 H2 HR
    go_wp2
    go_ret
    exact ⟨rfl, own2, M', HF.out⟩

set_option maxRecDepth 100000 in
set_option maxHeartbeats 2000000 in
theorem do_alloc (w0 w : World) (own : Ow) (t : Nat) (M : Tr) (bs : Nat) (x : Cl) (h : Duo w0 w own t M M bs) (y0 : 0 ≤ x.what) (y1 : x.what ≤ 255) (hc : x.what % 8 ≠ 3 ∧ x.what % 8 ≠ 4 ∧ x.what % 8 ≠ 5 ∧ x.what % 8 ≠ 6 ∧ x.what % 8 ≠ 7) :
    Calls Try.prog 28 #[.pointer (some ⟨t, 0, none⟩), .pointer (some ⟨bs, 0, none⟩), .agg #[.int .u8 x.what, .int .i64 x.node, .int .i64 x.items, .int .i64 x.size, .int .i64 x.align]] w (DoPost w0 t bs) := by
  have b3 : (x.what % 8 == 3) = false := by rw [beq_eq_false_iff_ne]; omega
  have b4 : (x.what % 8 == 4) = false := by rw [beq_eq_false_iff_ne]; omega
  have b5 : (x.what % 8 == 5) = false := by rw [beq_eq_false_iff_ne]; omega
  have b6 : (x.what % 8 == 6) = false := by rw [beq_eq_false_iff_ne]; omega
  have b7 : (x.what % 8 == 7) = false := by rw [beq_eq_false_iff_ne]; omega
  clear hc
  have hX := h.bel (below_box w (xBox x))
  obtain ⟨M', a, b, he⟩ : ∃ M' a b, alloc M x.node x.size x.align = (M', a, b) := ⟨_, _, _, rfl⟩
  have HK1 := Lib.hid (kp_alloc hX.held x.node x.size x.align he)
  have hxb : (w.alloc (xBox x)).heap[w.heap.size]? = some (.cells #[.int .u8 x.what, .int .i64 x.node, .int .i64 x.items, .int .i64 x.size, .int .i64 x.align] 49 (0, 0)) := heap_alloc_new w _
  have hn := fresh_none h.held.fresh
  have hG := h.held.good
  have hbl := h.lt
  have hl0 := h.held.below.size
  have HX := Lib.hid (And.intro hX (And.intro hxb (And.intro hn (And.intro hG he))))
  have hs0 : (w.alloc (xBox x)).heap.size = w.heap.size + 1 := by unfold xBox; simp
  clear h hX hxb hn hG he
  go_enter Try.func28, Try.ntmps28
  go_wp2_with (go_at_call 16; fail)
  have hW : w.alloc (.cells #[.int .u8 x.what, .int .i64 x.node, .int .i64 x.items, .int .i64 x.size, .int .i64 x.align] 49) = w.alloc (xBox x) := rfl
  rw [hW]
  clear hW
  generalize w.alloc (xBox x) = W0 at *
  refine HK1.out.mono ?_
  rintro e w2 ⟨own2, rfl, hH2, hK2⟩
  have hD2 := HX.out.1.tree hH2 hK2
  have hs2 := hK2.size
  have hx2 := (hK2.block _ (show w.heap.size < W0.heap.size by omega) HX.out.2.2.1).trans HX.out.2.1
  obtain ⟨g, cap, cur, zs, hbs2, hC2, hz2⟩ := hD2.st
  have S0 := DoS.of hbs2 hx2
  have S1 := S0.below ((Below.refl _ _).drew)
  have S2 := S0.below ((below_box w2 (.cells #[.slice none 0 0] 28)).drew)
  have HR := Lib.hid (fun w3 (hb : Below w2.heap.size w2 w3) => allocR_ok _ w3 g cap cur zs M x.node x.size x.align (hC2.strong.below hb) hz2 HX.out.2.2.2.1)
  rw [HX.out.2.2.2.2] at HR
  have H2 := Lib.hid hD2
  have hbl2 : bs < w2.heap.size := by omega
  have hxl2 : w.heap.size < w2.heap.size := by omega
  clear hH2 hK2 hD2 hx2 hbs2 hC2 hz2 HK1 HX
  unfold DoS at S0 S1 S2
  have g1 : (a == a) = true := by simp
  have g2 : (b == b) = true := by simp
  go_upto_region 22 with (fail)
  go_cut [24, 25, 26] from 165 to 178 (fun u v s wx => v = .int .i64 a ∧ s = .int .i64 b ∧ DoC w0 w2 own2 bs w.heap.size (.slice (some ⟨g, 0, none⟩) M.length cap) x M' u wx)
  case first =>
    go_region_held3 (fun w' => Below w2.heap.size w2 w' ∧ w'.cell? ⟨bs, 0, none⟩ = some (.slice (some ⟨g, 0, none⟩) M.length cap) ∧ w'.frozen? ⟨bs, 0, none⟩ = false ∧ w'.cell? ⟨w.heap.size, 1, none⟩ = some (.int .i64 x.node) ∧ w'.cell? ⟨w.heap.size, 2, none⟩ = some (.int .i64 x.items) ∧ w'.cell? ⟨w.heap.size, 3, none⟩ = some (.int .i64 x.size) ∧ w'.cell? ⟨w.heap.size, 4, none⟩ = some (.int .i64 x.align))
      (first | exact S1 | exact S2 | exact S4.out | exact S4.out.below (below_box _ _) | exact S4.out.below ((below_box _ _).setCell (Nat.le_refl _) _) | exact S4.out.setB hbl2 hxl2 | go_keep)
      (first | (go_at_call 50; refine (HR.out _ (And.left (by assumption))).mono ?_; rintro e w4 ⟨⟨g', cap', cur', zs', rfl, hC4, hs4⟩, hb4⟩; have S4 := Lib.hid (DoS.below (show DoS w2 bs w.heap.size (.slice (some ⟨g, 0, none⟩) M.length cap) x _ by first | exact S1 | exact S2) hb4); have H4 := Lib.hid (And.intro hC4 (And.intro hs4 hb4)); try (have hzz := (hb4.block w2.heap.size (by show w2.heap.size < (w2.alloc _).heap.size; simp)).trans (show (w2.alloc (.cells #[.slice none 0 0] 28)).drew.heap[w2.heap.size]? = some (.cells #[.slice none 0 0] 28 (0, 0)) from heap_alloc_new w2 _); obtain ⟨zz0, zz1⟩ := one_cell hzz; clear hzz); clear hC4 hs4 hb4))
    all_goals
      go_wp2_with (fail)
      go_meet
      refine ⟨rfl, rfl, ?_⟩
      first
        | exact DoC.one (w3 := w2.drew) (Nat.le_refl _) S4.out H4.out.1 H4.out.2.1
        | exact DoC.two (w3 := (w2.alloc (.cells #[.slice none 0 0] 28)).drew) (z := .slice none 0 0) (by show w2.heap.size + 1 ≤ (w2.alloc _).heap.size; simp) ((H4.out.2.2.block _ (by show w2.heap.size < (w2.alloc _).heap.size; simp)).trans (heap_alloc_new w2 _)) hbl2 hxl2 S4.out H4.out.1 H4.out.2.1
  case rest =>
    obtain ⟨rfl, rfl, bu, g', cap', cur', zs', rfl, hlo, hbu, hS, hC, hs⟩ := hcut
    obtain ⟨u0, _⟩ := one_cell hbu
    have hfin := H2.out.put hS.1 (fun b hb => hb) hC hs
    have HF := Lib.hid hfin
    obtain ⟨hSb, c0, c1, _, _, _, _⟩ := hS
    have HS := Lib.hid hSb
    clear hfin hC hs hbu hSb S0 S1 S2 H2 HR
    go_wp2
    go_ret
    exact ⟨rfl, own2, M', HF.out⟩

end Ne
end Go.Proofs.Ytllmddhahpegmaa
namespace Go.Proofs.Ytllmddhahpegmaa
open Go.RowKit
namespace Ne

set_option maxRecDepth 100000 in
set_option maxHeartbeats 2000000 in
theorem do_rewind (w0 w : World) (own : Ow) (t : Nat) (M : Tr) (bs : Nat) (x : Cl) (h : Duo w0 w own t M M bs) (y0 : 0 ≤ x.what) (y1 : x.what ≤ 255) (hc : x.what % 8 = 4) :
    Calls Try.prog 28 #[.pointer (some ⟨t, 0, none⟩), .pointer (some ⟨bs, 0, none⟩), .agg #[.int .u8 x.what, .int .i64 x.node, .int .i64 x.items, .int .i64 x.size, .int .i64 x.align]] w (DoPost w0 t bs) := by
  have b3 : (x.what % 8 == 3) = false := by rw [beq_eq_false_iff_ne]; omega
  have b4 : (x.what % 8 == 4) = true := by rw [beq_iff_eq]; exact hc
  clear hc
  have hX := h.bel (below_box w (xBox x))
  obtain ⟨F, hF⟩ := h.held.good.big
  obtain ⟨M', b, he⟩ : ∃ M' b, rewindTo M F x.node x.items = (M', b) := ⟨_, _, rfl⟩
  have hx2 : (w.alloc (xBox x)).heap[w.heap.size]? = some (.cells #[.int .u8 x.what, .int .i64 x.node, .int .i64 x.items, .int .i64 x.size, .int .i64 x.align] 49 (0, 0)) := heap_alloc_new w _
  have hG := h.held.good
  have hbl := h.lt
  have hs0 : (w.alloc (xBox x)).heap.size = w.heap.size + 1 := by unfold xBox; simp
  obtain ⟨g, cap, cur, zs, hbs2, hC2, hz2⟩ := hX.st
  have S0 := DoS.of hbs2 hx2
  have S1 := S0.below ((Below.refl _ _).drew)
  have S2 := S0.below ((below_box (w.alloc (xBox x)) (.cells #[.slice none 0 0] 28)).drew)
  have HR := Lib.hid (fun w3 (hb : Below (w.alloc (xBox x)).heap.size (w.alloc (xBox x)) w3) => rewindR_ok _ w3 g cap cur zs M x.node x.items F (hC2.strong.below hb) hz2 hG hF)
  rw [he] at HR
  have H2 := Lib.hid (And.intro hX (And.intro he hF))
  have hbl2 : bs < (w.alloc (xBox x)).heap.size := by omega
  have hxl2 : w.heap.size < (w.alloc (xBox x)).heap.size := by omega
  have hne : w.heap.size ≠ bs := by omega
  clear h hX he hF hx2 hG hbs2 hC2 hz2
  unfold DoS at S0 S1 S2
  have g2 : (b == b) = true := by simp
  go_enter Try.func28, Try.ntmps28
  go_upto_region 8 with (fail)
  have hW : w.alloc (.cells #[.int .u8 x.what, .int .i64 x.node, .int .i64 x.items, .int .i64 x.size, .int .i64 x.align] 49) = w.alloc (xBox x) := rfl
  rw [hW]
  clear hW
  clear hs0
  generalize w.alloc (xBox x) = w2 at *
  go_cut [12, 13] from 70 to 80 (fun u s wx => s = .int .i64 b ∧ DoC w0 w2 own bs w.heap.size (.slice (some ⟨g, 0, none⟩) M.length cap) x M' u wx)
  case first =>
    go_region_held3 (fun w' => Below w2.heap.size w2 w' ∧ w'.cell? ⟨bs, 0, none⟩ = some (.slice (some ⟨g, 0, none⟩) M.length cap) ∧ w'.frozen? ⟨bs, 0, none⟩ = false ∧ w'.cell? ⟨w.heap.size, 1, none⟩ = some (.int .i64 x.node) ∧ w'.cell? ⟨w.heap.size, 2, none⟩ = some (.int .i64 x.items) ∧ w'.cell? ⟨w.heap.size, 3, none⟩ = some (.int .i64 x.size) ∧ w'.cell? ⟨w.heap.size, 4, none⟩ = some (.int .i64 x.align))
      (first | exact S1 | exact S2 | exact S4.out | exact S4.out.below (below_box _ _) | exact S4.out.below ((below_box _ _).setCell (Nat.le_refl _) _) | exact S4.out.setB hbl2 hxl2 | go_keep)
      (first | (go_at_call 46; refine (HR.out _ (And.left (by assumption))).mono ?_; rintro e w4 ⟨⟨g', cap', cur', zs', rfl, hC4, hs4⟩, hb4⟩; have S4 := Lib.hid (DoS.below (show DoS w2 bs w.heap.size (.slice (some ⟨g, 0, none⟩) M.length cap) x _ by first | exact S1 | exact S2) hb4); have H4 := Lib.hid (And.intro hC4 (And.intro hs4 hb4)); try (have hzz := (hb4.block w2.heap.size (by show w2.heap.size < (w2.alloc _).heap.size; simp)).trans (show (w2.alloc (.cells #[.slice none 0 0] 28)).drew.heap[w2.heap.size]? = some (.cells #[.slice none 0 0] 28 (0, 0)) from heap_alloc_new w2 _); obtain ⟨zz0, zz1⟩ := one_cell hzz; clear hzz); clear hC4 hs4 hb4))
    all_goals
      go_wp2_with (fail)
      go_meet
      refine ⟨rfl, ?_⟩
      first
        | exact DoC.one (w3 := w2.drew) (Nat.le_refl _) S4.out H4.out.1 H4.out.2.1
        | exact DoC.two (w3 := (w2.alloc (.cells #[.slice none 0 0] 28)).drew) (z := .slice none 0 0) (by show w2.heap.size + 1 ≤ (w2.alloc _).heap.size; simp) ((H4.out.2.2.block _ (by show w2.heap.size < (w2.alloc _).heap.size; simp)).trans (heap_alloc_new w2 _)) hbl2 hxl2 S4.out H4.out.1 H4.out.2.1
  case rest =>
    obtain ⟨rfl, bu, g', cap', cur', zs', rfl, hlo, hbu, hS, hC, hs⟩ := hcut
    obtain ⟨u0, _⟩ := one_cell hbu
    have hfin := H2.out.1.put hS.1 (fun b hb => hb) hC hs
    have HK := Lib.hid (kp_rewind hfin.held x.node x.items H2.out.2.2 H2.out.2.1)
    have HF := Lib.hid hfin
    obtain ⟨hSb, c0, c1, d1, d2, d3, d4⟩ := hS
    have f1 := (World.cell?_of_block (a := ⟨w.heap.size, 1, none⟩) (setCell_far wc ⟨bs, 0, none⟩ (.slice (some ⟨g', 0, none⟩) M'.length cap') _ hne)).trans d1
    have f2 := (World.cell?_of_block (a := ⟨w.heap.size, 2, none⟩) (setCell_far wc ⟨bs, 0, none⟩ (.slice (some ⟨g', 0, none⟩) M'.length cap') _ hne)).trans d2
    clear hfin hC hs hbu hSb S0 S1 S2 H2 HR d1 d2 d3 d4
    go_wp2_with (go_at_call 20; fail)
    refine HK.out.mono ?_
    rintro e w9 ⟨own9, rfl, hH9, hK9⟩
    have HD := Lib.hid (HF.out.tree hH9 hK9)
    clear hH9 hK9
    go_wp2
    go_ret
    exact ⟨rfl, own9, M', HD.out⟩

set_option maxRecDepth 100000 in
set_option maxHeartbeats 2000000 in
theorem do_stop (w0 w : World) (own : Ow) (t : Nat) (M : Tr) (bs : Nat) (x : Cl) (h : Duo w0 w own t M M bs) (y0 : 0 ≤ x.what) (y1 : x.what ≤ 255) (hc : x.what % 8 = 5) :
    Calls Try.prog 28 #[.pointer (some ⟨t, 0, none⟩), .pointer (some ⟨bs, 0, none⟩), .agg #[.int .u8 x.what, .int .i64 x.node, .int .i64 x.items, .int .i64 x.size, .int .i64 x.align]] w (DoPost w0 t bs) := by
  have b3 : (x.what % 8 == 3) = false := by rw [beq_eq_false_iff_ne]; omega
  have b4 : (x.what % 8 == 4) = false := by rw [beq_eq_false_iff_ne]; omega
  have b5 : (x.what % 8 == 5) = true := by rw [beq_iff_eq]; exact hc
  clear hc
  have hX := h.bel (below_box w (xBox x))
  obtain ⟨F, hF⟩ := h.held.good.big
  obtain ⟨M', b, he⟩ : ∃ M' b, stopAt M F x.node = (M', b) := ⟨_, _, rfl⟩
  have hx2 : (w.alloc (xBox x)).heap[w.heap.size]? = some (.cells #[.int .u8 x.what, .int .i64 x.node, .int .i64 x.items, .int .i64 x.size, .int .i64 x.align] 49 (0, 0)) := heap_alloc_new w _
  have hG := h.held.good
  have hbl := h.lt
  have hs0 : (w.alloc (xBox x)).heap.size = w.heap.size + 1 := by unfold xBox; simp
  obtain ⟨g, cap, cur, zs, hbs2, hC2, hz2⟩ := hX.st
  have S0 := DoS.of hbs2 hx2
  have S1 := S0.below ((Below.refl _ _).drew)
  have S2 := S0.below ((below_box (w.alloc (xBox x)) (.cells #[.slice none 0 0] 28)).drew)
  have HR := Lib.hid (fun w3 (hb : Below (w.alloc (xBox x)).heap.size (w.alloc (xBox x)) w3) => stopR_ok _ w3 g cap cur zs M x.node F (hC2.strong.below hb) hz2 hG hF)
  rw [he] at HR
  have H2 := Lib.hid (And.intro hX (And.intro he hF))
  have hbl2 : bs < (w.alloc (xBox x)).heap.size := by omega
  have hxl2 : w.heap.size < (w.alloc (xBox x)).heap.size := by omega
  have hne : w.heap.size ≠ bs := by omega
  clear h hX he hF hx2 hG hbs2 hC2 hz2
  unfold DoS at S0 S1 S2
  have g2 : (b == b) = true := by simp
  go_enter Try.func28, Try.ntmps28
  go_upto_region 12 with (fail)
  have hW : w.alloc (.cells #[.int .u8 x.what, .int .i64 x.node, .int .i64 x.items, .int .i64 x.size, .int .i64 x.align] 49) = w.alloc (xBox x) := rfl
  rw [hW]
  clear hW
  clear hs0
  generalize w.alloc (xBox x) = w2 at *
  go_cut [14, 15] from 94 to 102 (fun u s wx => s = .int .i64 b ∧ DoC w0 w2 own bs w.heap.size (.slice (some ⟨g, 0, none⟩) M.length cap) x M' u wx)
  case first =>
    go_region_held3 (fun w' => Below w2.heap.size w2 w' ∧ w'.cell? ⟨bs, 0, none⟩ = some (.slice (some ⟨g, 0, none⟩) M.length cap) ∧ w'.frozen? ⟨bs, 0, none⟩ = false ∧ w'.cell? ⟨w.heap.size, 1, none⟩ = some (.int .i64 x.node) ∧ w'.cell? ⟨w.heap.size, 2, none⟩ = some (.int .i64 x.items) ∧ w'.cell? ⟨w.heap.size, 3, none⟩ = some (.int .i64 x.size) ∧ w'.cell? ⟨w.heap.size, 4, none⟩ = some (.int .i64 x.align))
      (first | exact S1 | exact S2 | exact S4.out | exact S4.out.below (below_box _ _) | exact S4.out.below ((below_box _ _).setCell (Nat.le_refl _) _) | exact S4.out.setB hbl2 hxl2 | go_keep)
      (first | (go_at_call 47; refine (HR.out _ (And.left (by assumption))).mono ?_; rintro e w4 ⟨⟨g', cap', cur', zs', rfl, hC4, hs4⟩, hb4⟩; have S4 := Lib.hid (DoS.below (show DoS w2 bs w.heap.size (.slice (some ⟨g, 0, none⟩) M.length cap) x _ by first | exact S1 | exact S2) hb4); have H4 := Lib.hid (And.intro hC4 (And.intro hs4 hb4)); try (have hzz := (hb4.block w2.heap.size (by show w2.heap.size < (w2.alloc _).heap.size; simp)).trans (show (w2.alloc (.cells #[.slice none 0 0] 28)).drew.heap[w2.heap.size]? = some (.cells #[.slice none 0 0] 28 (0, 0)) from heap_alloc_new w2 _); obtain ⟨zz0, zz1⟩ := one_cell hzz; clear hzz); clear hC4 hs4 hb4))
    all_goals
      go_wp2_with (fail)
      go_meet
      refine ⟨rfl, ?_⟩
      first
        | exact DoC.one (w3 := w2.drew) (Nat.le_refl _) S4.out H4.out.1 H4.out.2.1
        | exact DoC.two (w3 := (w2.alloc (.cells #[.slice none 0 0] 28)).drew) (z := .slice none 0 0) (by show w2.heap.size + 1 ≤ (w2.alloc _).heap.size; simp) ((H4.out.2.2.block _ (by show w2.heap.size < (w2.alloc _).heap.size; simp)).trans (heap_alloc_new w2 _)) hbl2 hxl2 S4.out H4.out.1 H4.out.2.1
  case rest =>
    obtain ⟨rfl, bu, g', cap', cur', zs', rfl, hlo, hbu, hS, hC, hs⟩ := hcut
    obtain ⟨u0, _⟩ := one_cell hbu
    have hfin := H2.out.1.put hS.1 (fun b hb => hb) hC hs
    have HK := Lib.hid (kp_stop hfin.held x.node H2.out.2.2 H2.out.2.1)
    have HF := Lib.hid hfin
    obtain ⟨hSb, c0, c1, d1, d2, d3, d4⟩ := hS
    have f1 := (World.cell?_of_block (a := ⟨w.heap.size, 1, none⟩) (setCell_far wc ⟨bs, 0, none⟩ (.slice (some ⟨g', 0, none⟩) M'.length cap') _ hne)).trans d1
    have f2 := (World.cell?_of_block (a := ⟨w.heap.size, 2, none⟩) (setCell_far wc ⟨bs, 0, none⟩ (.slice (some ⟨g', 0, none⟩) M'.length cap') _ hne)).trans d2
    clear hfin hC hs hbu hSb S0 S1 S2 H2 HR d1 d2 d3 d4
    go_wp2_with (go_at_call 18; fail)
    refine HK.out.mono ?_
    rintro e w9 ⟨own9, rfl, hH9, hK9⟩
    have HD := Lib.hid (HF.out.tree hH9 hK9)
    clear hH9 hK9
    go_wp2
    go_ret
    exact ⟨rfl, own9, M', HD.out⟩

/-- What both answer to Owner. -/
def OwnV (M : Tr) (y rs a b c : Int) : Prop := ((y < 0 ∨ rs ≤ y) ∧ a = 0 ∧ b = 0 ∧ c = 7) ∨ (0 ≤ y ∧ y < rs ∧ ∃ k : Nat, a = k ∧ Owns M y k b ∧ c = 0)
theorem OwnV.unique {M : Tr} (hg : Good M) {y rs a b c a' b' c' : Int} (h : OwnV M y rs a b c) (h' : OwnV M y rs a' b' c') : a = a' ∧ b = b' ∧ c = c' := by
  rcases h with ⟨h1, h2, h3, h4⟩ | ⟨h1, h2, k, h3, h4, h5⟩
  · rcases h' with ⟨k1, k2, k3, k4⟩ | ⟨k1, k2, k, k3, k4, k5⟩
    · exact ⟨by omega, by omega, by omega⟩
    · omega
  · rcases h' with ⟨k1, k2, k3, k4⟩ | ⟨k1, k2, k', k3, k4, k5⟩
    · omega
    · obtain ⟨e1, e2⟩ := h4.unique hg k4
      exact ⟨by omega, e2, by omega⟩
theorem OwnerOf.v {M : Tr} {y rs : Int} {e : Ending} (h : OwnerOf M y rs e) : ∃ a b c : Int, e = .returned (.tuple #[.int .i64 a, .int .i64 b, .int .i64 c]) ∧ OwnV M y rs a b c := by
  rcases h with ⟨h1, h2⟩ | ⟨h1, h2, k, i, h3, h4⟩
  · exact ⟨0, 0, 7, h2, .inl ⟨h1, rfl, rfl, rfl⟩⟩
  · exact ⟨k, i, 0, h3, .inr ⟨h1, h2, k, rfl, h4, rfl⟩⟩

set_option maxRecDepth 100000 in
set_option maxHeartbeats 2000000 in
theorem do_owner (w0 w : World) (own : Ow) (t : Nat) (M : Tr) (bs : Nat) (x : Cl) (h : Duo w0 w own t M M bs) (y0 : 0 ≤ x.what) (y1 : x.what ≤ 255) (hc : x.what % 8 = 7) :
    Calls Try.prog 28 #[.pointer (some ⟨t, 0, none⟩), .pointer (some ⟨bs, 0, none⟩), .agg #[.int .u8 x.what, .int .i64 x.node, .int .i64 x.items, .int .i64 x.size, .int .i64 x.align]] w (DoPost w0 t bs) := by
  have b3 : (x.what % 8 == 3) = false := by rw [beq_eq_false_iff_ne]; omega
  have b4 : (x.what % 8 == 4) = false := by rw [beq_eq_false_iff_ne]; omega
  have b5 : (x.what % 8 == 5) = false := by rw [beq_eq_false_iff_ne]; omega
  have b6 : (x.what % 8 == 6) = false := by rw [beq_eq_false_iff_ne]; omega
  have b7 : (x.what % 8 == 7) = true := by rw [beq_iff_eq]; exact hc
  clear hc
  have hX := h.bel (below_box w (xBox x))
  obtain ⟨r, hr, _⟩ := h.held.good.root
  have hx2 : (w.alloc (xBox x)).heap[w.heap.size]? = some (.cells #[.int .u8 x.what, .int .i64 x.node, .int .i64 x.items, .int .i64 x.size, .int .i64 x.align] 49 (0, 0)) := heap_alloc_new w _
  have hG := h.held.good
  have hbl := h.lt
  have hs0 : (w.alloc (xBox x)).heap.size = w.heap.size + 1 := by unfold xBox; simp
  have HT := Lib.hid (owner_tree (w.alloc (xBox x)) own t M x.size r hX.held.tree hG hr)
  have H2 := Lib.hid (And.intro hX (And.intro hx2 (And.intro hG hr)))
  clear h hX hx2 hG hr
  go_enter Try.func28, Try.ntmps28
  go_wp2_with (go_at_call 14; fail)
  have hW : w.alloc (.cells #[.int .u8 x.what, .int .i64 x.node, .int .i64 x.items, .int .i64 x.size, .int .i64 x.align] 49) = w.alloc (xBox x) := rfl
  rw [hW]
  clear hW
  generalize w.alloc (xBox x) = W0 at *
  refine HT.out.mono ?_
  rintro e w2 ⟨ho, hb2⟩
  obtain ⟨a, b, c, rfl, hv⟩ := OwnerOf.v ho
  have hD2 := H2.out.1.bel hb2
  have hs2 := hb2.size
  have hx2 := (hb2.block _ (show w.heap.size < W0.heap.size by omega)).trans H2.out.2.1
  obtain ⟨g, cap, cur, zs, hbs2, hC2, hz2⟩ := hD2.st
  have S1 := (DoS.of hbs2 hx2).below ((Below.refl _ _).drew)
  have HR := Lib.hid (fun w3 (hb : Below w2.heap.size w2 w3) => ownerR_ok _ w3 _ _ M x.size r ((hC2.below hb).stK hz2) H2.out.2.2.1 H2.out.2.2.2)
  have HD := Lib.hid (And.intro hD2 hv)
  clear ho hb2 hD2 hx2 hbs2 hC2 hz2 hv HT
  unfold DoS at S1
  have g1 : (a == a) = true := by simp
  have g2 : (b == b) = true := by simp
  have g3 : (c == c) = true := by simp
  go_wp2_with fail
  go_region_held3 (fun w' => Below w2.heap.size w2 w' ∧ w'.cell? ⟨bs, 0, none⟩ = some (.slice (some ⟨g, 0, none⟩) M.length cap) ∧ w'.frozen? ⟨bs, 0, none⟩ = false ∧ w'.cell? ⟨w.heap.size, 1, none⟩ = some (.int .i64 x.node) ∧ w'.cell? ⟨w.heap.size, 2, none⟩ = some (.int .i64 x.items) ∧ w'.cell? ⟨w.heap.size, 3, none⟩ = some (.int .i64 x.size) ∧ w'.cell? ⟨w.heap.size, 4, none⟩ = some (.int .i64 x.align))
    (first | exact S1 | exact S4.out | go_keep)
    (first | (go_at_call 49; refine (HR.out _ (And.left (by assumption))).mono ?_; rintro e w4 ⟨ho4, hb4⟩; obtain ⟨a', b', c', rfl, hv4⟩ := OwnerOf.v ho4; obtain ⟨rfl, rfl, rfl⟩ := OwnV.unique H2.out.2.2.1 HD.out.2 hv4; have S4 := Lib.hid (DoS.below (show DoS w2 bs w.heap.size (.slice (some ⟨g, 0, none⟩) M.length cap) x _ from S1) hb4); clear hb4 ho4 hv4))
  go_wp2
  go_ret
  exact ⟨rfl, own, M, HD.out.1.bel S4.out.1⟩

set_option maxRecDepth 100000 in
set_option maxHeartbeats 2000000 in
theorem do_asks (w0 w : World) (own : Ow) (t : Nat) (M : Tr) (bs : Nat) (x : Cl) (h : Duo w0 w own t M M bs) (y0 : 0 ≤ x.what) (y1 : x.what ≤ 255) (hc : x.what % 8 = 6) :
    Calls Try.prog 28 #[.pointer (some ⟨t, 0, none⟩), .pointer (some ⟨bs, 0, none⟩), .agg #[.int .u8 x.what, .int .i64 x.node, .int .i64 x.items, .int .i64 x.size, .int .i64 x.align]] w (DoPost w0 t bs) := by
  have b3 : (x.what % 8 == 3) = false := by rw [beq_eq_false_iff_ne]; omega
  have b4 : (x.what % 8 == 4) = false := by rw [beq_eq_false_iff_ne]; omega
  have b5 : (x.what % 8 == 5) = false := by rw [beq_eq_false_iff_ne]; omega
  have b6 : (x.what % 8 == 6) = true := by rw [beq_iff_eq]; exact hc
  clear hc
  have hX := h.bel (below_box w (xBox x))
  obtain ⟨F, hF⟩ := h.held.good.big
  have hx2 : (w.alloc (xBox x)).heap[w.heap.size]? = some (.cells #[.int .u8 x.what, .int .i64 x.node, .int .i64 x.items, .int .i64 x.size, .int .i64 x.align] 49 (0, 0)) := heap_alloc_new w _
  have hG := h.held.good
  have hbl := h.lt
  have hs0 : (w.alloc (xBox x)).heap.size = w.heap.size + 1 := by unfold xBox; simp
  obtain ⟨g, cap, cur, zs, hbs2, hC2, hz2⟩ := hX.st
  have S1 := (DoS.of hbs2 hx2).below ((Below.refl _ _).drew)
  have HR := Lib.hid (fun w3 (hb : Below (w.alloc (xBox x)).heap.size (w.alloc (xBox x)) w3) => asks_ok w3 own t M x.node F (hX.held.tree.below hb) ((hX.bel hb).held.fresh) hG hF _ _ ((hC2.below hb).stK hz2 |>.keep fun k _ _ => ⟨rfl, trivial⟩))
  have HD := Lib.hid hX
  clear h hX hx2 hG hbs2 hC2 hz2
  unfold DoS at S1
  go_enter Try.func28, Try.ntmps28
  go_upto_region 16 with (fail)
  have hW : w.alloc (.cells #[.int .u8 x.what, .int .i64 x.node, .int .i64 x.items, .int .i64 x.size, .int .i64 x.align] 49) = w.alloc (xBox x) := rfl
  rw [hW]
  clear hW
  generalize w.alloc (xBox x) = w2 at *
  go_region_held3 (fun w' => Below w2.heap.size w2 w' ∧ w'.cell? ⟨bs, 0, none⟩ = some (.slice (some ⟨g, 0, none⟩) M.length cap) ∧ w'.frozen? ⟨bs, 0, none⟩ = false ∧ w'.cell? ⟨w.heap.size, 1, none⟩ = some (.int .i64 x.node) ∧ w'.cell? ⟨w.heap.size, 2, none⟩ = some (.int .i64 x.items) ∧ w'.cell? ⟨w.heap.size, 3, none⟩ = some (.int .i64 x.size) ∧ w'.cell? ⟨w.heap.size, 4, none⟩ = some (.int .i64 x.align))
    (first | exact S1 | exact S4.out | go_keep)
    (first | (go_at_call 48; refine (HR.out _ (And.left (by assumption))).mono ?_; rintro e w4 ⟨rfl, hb4⟩; have S4 := Lib.hid (DoS.below (show DoS w2 bs w.heap.size (.slice (some ⟨g, 0, none⟩) M.length cap) x _ from S1) hb4); clear hb4))
  go_wp2
  go_ret
  exact ⟨rfl, own, M, HD.out.bel S4.out.1⟩

theorem do_ok (w0 w : World) (own : Ow) (t : Nat) (M : Tr) (bs : Nat) (x : Cl) (h : Duo w0 w own t M M bs) (y0 : 0 ≤ x.what) (y1 : x.what ≤ 255) :
    Calls Try.prog 28 #[.pointer (some ⟨t, 0, none⟩), .pointer (some ⟨bs, 0, none⟩), .agg #[.int .u8 x.what, .int .i64 x.node, .int .i64 x.items, .int .i64 x.size, .int .i64 x.align]] w (DoPost w0 t bs) := by
  by_cases h3 : x.what % 8 = 3
  · exact do_begin w0 w own t M bs x h y0 y1 h3
  by_cases h4 : x.what % 8 = 4
  · exact do_rewind w0 w own t M bs x h y0 y1 h4
  by_cases h5 : x.what % 8 = 5
  · exact do_stop w0 w own t M bs x h y0 y1 h5
  by_cases h6 : x.what % 8 = 6
  · exact do_asks w0 w own t M bs x h y0 y1 h6
  by_cases h7 : x.what % 8 = 7
  · exact do_owner w0 w own t M bs x h y0 y1 h7
  exact do_alloc w0 w own t M bs x h y0 y1 ⟨h3, h4, h5, h6, h7⟩
end Ne
end Go.Proofs.Ytllmddhahpegmaa
namespace Go.Proofs.Ytllmddhahpegmaa
open Go.RowKit Go.Shelf
namespace Ne
attribute [local go_sem] Oper.semAt_some

theorem give_nil (w : World) (i sz al : Int) :
    Calls Try.prog 36 #[.pointer none, .int .i64 i, .int .i64 sz, .int .i64 al] w fun e w' => e = .returned (.tuple #[.pointer none, .int .i64 0, .int .i64 1]) ∧ w = w' := by
  go_enter Try.func36, Try.ntmps36
  go_wp2_with (go_at_call 37; refine (find_nil _ _).mono ?_; rintro e w' ⟨rfl, rfl⟩)
  go_ret3
  exact ⟨rfl, rfl⟩
theorem alloc_nil (w : World) (i sz al : Int) :
    Calls Try.prog 16 #[.pointer none, .int .i64 i, .int .i64 sz, .int .i64 al] w fun e w' => e = .returned (.tuple #[.int .i64 0, .int .i64 1]) ∧ w = w' := by
  go_enter Try.func16, Try.ntmps16
  go_wp2_with (go_at_call 36; refine (give_nil _ _ _ _).mono ?_; rintro e w' ⟨rfl, rfl⟩)
  go_ret2
  exact ⟨rfl, rfl⟩
theorem chain_nil (w : World) (i : Int) :
    Calls Try.prog 27 #[.pointer none, .int .i64 i] w fun e w' => e = .returned (.tuple #[.slice none 0 0, .int .i64 1]) ∧ Below w.heap.size w w' := by
  go_enter Try.func27, Try.ntmps27
  go_wp2_with (go_at_call 37; refine (find_nil _ _).mono ?_; rintro e w' ⟨rfl, rfl⟩)
  go_ret2
  exact ⟨rfl, Below.refl _ _⟩
theorem end_nil (w : World) (i : Int) :
    Calls Try.prog 18 #[.pointer none, .int .i64 i] w fun e w' => e = .returned (.int .i64 1) ∧ Below w.heap.size w w' := by
  go_enter Try.func18, Try.ntmps18
  go_wp2_with (go_at_call 37; refine (find_nil _ _).mono ?_; rintro e w' ⟨rfl, rfl⟩)
  go_ret
  exact ⟨rfl, (Below.refl _ _).alloc (Nat.le_refl _) _⟩
theorem rewind_nil (w : World) (i m : Int) :
    Calls Try.prog 20 #[.pointer none, .int .i64 i, .int .i64 m] w fun e w' => e = .returned (.int .i64 1) ∧ Below w.heap.size w w' := by
  go_enter Try.func20, Try.ntmps20
  go_wp2_with (go_at_call 37; refine (find_nil _ _).mono ?_; rintro e w' ⟨rfl, rfl⟩)
  go_ret
  exact ⟨rfl, Below.refl _ _⟩
theorem save_nil (w : World) :
    Calls Try.prog 11 #[.pointer none] w fun e w' => e = .returned (.agg #[.slice none 0 0]) ∧ Below w.heap.size w w' := by
  go_enter Try.func11, Try.ntmps11
  go_wp2_with (go_at_call 29; refine (made_nil _).mono ?_; rintro e w' ⟨rfl, rfl⟩)
  go_wp2
  exact bodyPost_ret (v := .agg #[.slice none 0 0]) (by simp [results, Try.results11, go_sem]) rfl ⟨rfl, ((Below.refl _ _).alloc (Nat.le_refl _) _).alloc (by simp) _⟩

set_option maxRecDepth 100000 in
set_option maxHeartbeats 1000000 in
theorem belowseq_nil (n : Nat) (hn : 6 ≤ n) (b1 b2 : Nat) (k : Int) :
    SeqY Fence.wide n Try.prog 55 #[.pointer (some ⟨b1, 0, none⟩), .pointer (some ⟨b2, 0, none⟩)] (fun a : Nat => #[.int .i64 (a : Int)])
      (fun W => b1 < W.heap.size ∧ b2 < W.heap.size ∧ W.cell? ⟨b1, 0, none⟩ = some (.pointer none) ∧ W.cell? ⟨b2, 0, none⟩ = some (.int .i64 k))
      (fun x => x = b1 ∨ x = b2) (fun xs => xs = []) (fun _ => True) 0 := by
  intro l J Jx own0 W ⟨hb1, hb2, c1, c2⟩ hR hf hFJ hFJx hY h0
  have H := Lib.hid (And.intro hFJ h0)
  clear hR hf hFJ hFJx hY h0
  have n1 := World.new_ne W _ c1
  have n2 := World.new_ne W _ c2
  refine callsIn_of_wp_marks Try.func55 rfl trivial ?_ rfl
  simp only [Try.ntmps55, List.size_toArray, List.length_cons, List.length_nil, Nat.reduceAdd, Nat.reduceSub, Array.replicate_succ, Array.replicate_zero, List.push_toArray, List.append_toArray, List.nil_append, List.cons_append]
  refine wpIn_wide.2 ?_
  go_wp2_with (go_at_call 37; fail)
  have hbW : Below W.heap.size W (W.alloc (.cells #[.func (.yield l) #[] #[]] 96)) := (Below.refl _ _).alloc (Nat.le_refl _) _
  refine (find_nil _ _).mono ?_
  rintro e w1 ⟨rfl, rfl⟩
  have hbd := Lib.hid hbW
  clear hbW
  go_wp2
  refine ⟨_, results_none rfl _ _ _, ?_⟩
  exact ⟨⟨_, rfl⟩, own0, .of_below own0 hbd.out, .inl ⟨[], rfl, H.out.1 own0 [] W _ H.out.2 hbd.out.size fun k _ hk => hbd.out.block k hk⟩⟩

theorem below44_nil (w : World) (k : Int) :
    Calls Try.prog 44 #[.pointer none, .int .i64 k] w fun e w' => e = .returned (.func (.func 55) #[] #[.pointer (some ⟨w.heap.size, 0, none⟩), .pointer (some ⟨w.heap.size + 1, 0, none⟩)]) ∧
      w' = (w.alloc (.cells #[.pointer none] 23)).alloc (.cells #[.int .i64 k] 3) := by
  go_enter Try.func44, Try.ntmps44
  go_wp2
  go_ret
  exact ⟨rfl, rfl⟩

set_option maxRecDepth 100000 in
set_option maxHeartbeats 2000000 in
theorem below_nil (w : World) (k : Int) :
    Calls Try.prog 24 #[.pointer none, .int .i64 k] w fun e w' => (∃ A c, e = .returned (.slice A 0 c)) ∧ Below w.heap.size w w' := by
  refine (callsIn_wide (n := 8)).1 ?_
  refine callsIn_of_wp_marks Try.func24 rfl trivial ?_ rfl
  simp only [Try.ntmps24, List.size_toArray, List.length_cons, List.length_nil, Nat.reduceAdd, Nat.reduceSub, Array.replicate_succ, Array.replicate_zero, List.push_toArray, List.append_toArray, List.nil_append, List.cons_append]
  refine wpIn_wide.2 ?_
  go_wp2_with (go_at_call 44; refine (below44_nil _ _).mono ?_; rintro e w' ⟨rfl, rfl⟩)
  refine (wpIn_wide (n := 8)).1 ?_
  have c0 : ((((w.alloc (.cells #[.slice none 0 0] 36)).alloc (.cells #[.pointer none] 23)).alloc (.cells #[.int .i64 k] 3))).heap.size = w.heap.size + 3 := by simp
  have hb0 : Below w.heap.size w (((w.alloc (.cells #[.slice none 0 0] 36)).alloc (.cells #[.pointer none] 23)).alloc (.cells #[.int .i64 k] 3)) := (((Below.refl _ _).alloc (Nat.le_refl _) _).alloc (by simp) _).alloc (by simp; omega) _
  have bO : Boxed (((w.alloc (.cells #[.slice none 0 0] 36)).alloc (.cells #[.pointer none] 23)).alloc (.cells #[.int .i64 k] 3)) w.heap.size 36 (.slice none 0 0) := ((Boxed.new w 36 (.slice none 0 0)).alloc _).alloc _
  have b1 : (((w.alloc (.cells #[.slice none 0 0] 36)).alloc (.cells #[.pointer none] 23)).alloc (.cells #[.int .i64 k] 3)).cell? ⟨w.heap.size + 1, 0, none⟩ = some (.pointer none) := by
    have := ((Boxed.new (w.alloc (.cells #[.slice none 0 0] 36)) 23 (.pointer none)).alloc (.cells #[.int .i64 k] 3)).cell
    simpa using this
  have b2 : (((w.alloc (.cells #[.slice none 0 0] 36)).alloc (.cells #[.pointer none] 23)).alloc (.cells #[.int .i64 k] 3)).cell? ⟨w.heap.size + 1 + 1, 0, none⟩ = some (.int .i64 k) := by
    have := (Boxed.new ((w.alloc (.cells #[.slice none 0 0] 36)).alloc (.cells #[.pointer none] 23)) 3 (.int .i64 k)).cell
    simpa using this
  generalize (((w.alloc (.cells #[.slice none 0 0] 36)).alloc (.cells #[.pointer none] 23)).alloc (.cells #[.int .i64 k] 3)) = W0 at *
  have H := Lib.hid hb0
  clear hb0
  refine rangeY (Ix := fun _ _ _ _ => False) (I := Out w.heap.size) rfl (by omega) (gf := 55) (lb := #[.pointer (some ⟨w.heap.size + 1, 0, none⟩), .pointer (some ⟨w.heap.size + 1 + 1, 0, none⟩)]) rfl trivial (enters_of Try.func55 (by kernel_rfl) rfl)
    (belowseq_nil 7 (by omega) (w.heap.size + 1) (w.heap.size + 1 + 1) k) (fun x => if x = w.heap.size then some 0 else none) ?hf0 ?hD ?hR (fun _ => rfl) (out_framed _) (fun _ _ _ _ _ h _ _ => h) ?h0 ?a1 ?assign ?body ?done ?stop
  case hf0 =>
    intro x hx
    by_cases e : x = w.heap.size
    · omega
    · simp [e] at hx
  case hD =>
    intro V hV
    exact ⟨by have := hV.size; omega, by have := hV.size; omega, (hV.cell (p := ⟨w.heap.size + 1, 0, none⟩) (show w.heap.size + 1 < W0.heap.size by omega)).trans b1, (hV.cell (p := ⟨w.heap.size + 1 + 1, 0, none⟩) (show w.heap.size + 1 + 1 < W0.heap.size by omega)).trans b2⟩
  case hR =>
    intro x hx
    rcases hx with rfl | rfl
    · exact ⟨by simp, by omega⟩
    · exact ⟨by simp; omega, by omega⟩
  case h0 => exact ⟨none, 0, bO, World.ownsRow_nil _ _ _ _, by simp, fun g hg => by cases hg⟩
  case assign =>
    intro l x V K hK
    gi_wp2
    exact hK
  case body =>
    intro l own2 pre x V _ _ hlen
    exact absurd hlen (by omega)
  case done =>
    rintro own2 xs V hS ⟨A, c, hb, hr, ho, hg⟩ hK hd hdv
    have hbc := hb.cell
    have HE := Lib.hid (And.intro hS (And.intro hr (And.intro hK hdv)))
    have hbW := Lib.hid H.out
    clear hS hr hK hdv hb ho hg
    go_wp2
    refine ⟨by simp, .inl ⟨_, _, rfl, run_takeDeferred HE.out.2.2.2, ?_⟩⟩
    refine ⟨_, results_tmp rfl _ _ _, ⟨A, c, by rw [HE.out.1]; rfl⟩, ?_⟩
    have hK := HE.out.2.2.1
    have hB := hbW.out
    refine ⟨hK.os.trans hB.os, hK.tape.trans hB.tape, hK.output.trans hB.output, ?_, fun x hx => ?_⟩
    · have := hK.size; have := hB.size; simp; omega
    · have := hB.size
      rw [World.putObj_heap_other (by omega), hK.block x (by omega) (by simp; omega)]
      exact hB.block x hx
  case stop =>
    rintro _ _ _ _ _ h
    exact h.elim
end Ne
end Go.Proofs.Ytllmddhahpegmaa
