/- The reference: Alloc. The reference: Rewind. The reference: Stop. -/
import Derived.Test.YtllmddhahpegmaaM21
import Derived.Deep.RegionHeld3
import Derived.Deep.RegionLaw
namespace Go.Proofs.Ytllmddhahpegmaa
open Go.RowKit
namespace Ne

/-- A state that a call of the reference returns. -/
def RefOut (K : Nat → Prop) (w : World) (M : Tr) (P : Value → Prop) (w' : World) : Prop :=
  ∃ g cap cur zs, P (.agg #[.slice (some ⟨g, 0, none⟩) M.length cap]) ∧ Cop (fun b => K b ∨ w.heap.size ≤ b) w' g cap cur zs ∧ zs.map (·.x) = save M

/-- The world behind a state's box, and the box of a state that is returned. -/
def aW (w : World) (A : Option Addr) (c : Nat) (M : Tr) : World := (w.alloc (.cells #[.slice A M.length c] 28)).alloc (.cells #[.slice none 0 0] 28)
theorem aW_below (w : World) (A : Option Addr) (c : Nat) (M : Tr) : Below w.heap.size w (aW w A c M) := (below_box w _).trans ((below_box _ _).mono (by simp))
theorem aW_size (w : World) (A : Option Addr) (c : Nat) (M : Tr) : (aW w A c M).heap.size = w.heap.size + 2 := by simp [aW]
theorem aW_box (w : World) (A : Option Addr) (c : Nat) (M : Tr) : (aW w A c M).heap[w.heap.size]? = some (.cells #[.slice A M.length c] 28 (0, 0)) := by
  unfold aW
  rw [heapAlloc, if_neg (by simp), heapAlloc, if_pos rfl]
theorem aW_res (w : World) (A : Option Addr) (c : Nat) (M : Tr) : (aW w A c M).heap[w.heap.size + 1]? = some (.cells #[.slice none 0 0] 28 (0, 0)) := by
  unfold aW
  rw [heapAlloc, if_pos (by simp)]
theorem one_cell {w : World} {b T : Nat} {x : Value} (h : w.heap[b]? = some (.cells #[x] T (0, 0))) : w.cell? ⟨b, 0, none⟩ = some x ∧ w.frozen? ⟨b, 0, none⟩ = false := by
  constructor <;> simp [World.cell?, World.frozen?, h]

set_option maxHeartbeats 2000000 in
theorem allocR_err (K : Nat → Prop) (w : World) (g cap : Nat) (cur : Array Value) (zs : List SZ) (M : Tr) (i sz al : Int) (hC : Cop K w g cap cur zs) (hs : zs.map (·.x) = save M) (hg : Good M) (he : (give M i sz al).2 ≠ 0) :
    Calls Try.prog 50 #[.agg #[.slice (some ⟨g, 0, none⟩) M.length cap], .int .i64 i, .int .i64 sz, .int .i64 al] w fun e w' => RefOut K w M (fun v => e = .returned (.tuple #[v, .int .i64 0, .int .i64 (give M i sz al).2])) w' ∧ Below w.heap.size w w' := by
  have hsz := aW_size w (some ⟨g, 0, none⟩) cap M
  have hbx := aW_box w (some ⟨g, 0, none⟩) cap M
  have hre := aW_res w (some ⟨g, 0, none⟩) cap M
  have hcl := lt_of_heap hC.row
  have HGv := Lib.hid (giveR_ok K _ (some ⟨g, 0, none⟩) cap M i sz al ((hC.below (aW_below w (some ⟨g, 0, none⟩) cap M)).stK hs) hg)
  unfold GiveR at HGv
  have HB := Lib.hid (aW_below w (some ⟨g, 0, none⟩) cap M)
  have H := Lib.hid (And.intro hC hs)
  have hE : ((give M i sz al).2 != 0) = true := by rw [bne_iff_ne]; exact he
  clear hC hs hg he
  generalize gItem M i sz al = it at *
  generalize (give M i sz al).2 = E at *
  go_enter Try.func50, Try.ntmps50
  go_wp2_with (go_at_call 58; fail)
  have haW : (w.alloc (.cells #[.slice (some ⟨g, 0, none⟩) M.length cap] 28)).alloc (.cells #[.slice none 0 0] 28) = aW w (some ⟨g, 0, none⟩) cap M := rfl
  rw [haW]
  generalize aW w (some ⟨g, 0, none⟩) cap M = W2 at *
  clear haW
  refine HGv.out.mono ?_
  rintro e w1 ⟨rfl, hb1⟩
  have hbs := hb1.size
  replace hbx := (hb1.block _ (show w.heap.size < W2.heap.size by omega)).trans hbx
  replace hre := (hb1.block _ (show w.heap.size + 1 < W2.heap.size by omega)).trans hre
  obtain ⟨x0, x1⟩ := one_cell hbx
  obtain ⟨y0, y1⟩ := one_cell hre
  have HR := Lib.hid (And.intro hb1 (And.intro hbx hre))
  clear hb1 hbx hre
  have x2 := ((below_box w1 (.cells #[.int .i64 it.a, .int .i64 it.s, .int .i64 it.c] 54)).cell (p := ⟨w.heap.size, 0, none⟩) (show w.heap.size < w1.heap.size by omega)).trans x0
  have y2 := ((below_box w1 (.cells #[.int .i64 it.a, .int .i64 it.s, .int .i64 it.c] 54)).cell (p := ⟨w.heap.size + 1, 0, none⟩) (show w.heap.size + 1 < w1.heap.size by omega)).trans y0
  have y3 := ((below_box w1 (.cells #[.int .i64 it.a, .int .i64 it.s, .int .i64 it.c] 54)).frozen (p := ⟨w.heap.size + 1, 0, none⟩) (show w.heap.size + 1 < w1.heap.size by omega)).trans y1
  go_wp2
  have h8 : (w1.alloc (.cells #[.int .i64 it.a, .int .i64 it.s, .int .i64 it.c] 54)).heap[w.heap.size + 1]? = some (.cells #[.slice none 0 0] 28 (0, 0)) := by rw [alloc_old _ _ _ (by omega)]; exact HR.out.2.2
  have h9 := setCell_at _ _ 0 _ _ (.slice (some ⟨g, 0, none⟩) M.length cap) h8
  obtain ⟨q0, _⟩ := one_cell h9
  have hb9 : Below w.heap.size w ((w1.alloc (.cells #[.int .i64 it.a, .int .i64 it.s, .int .i64 it.c] 54)).setCell ⟨w.heap.size + 1, 0, none⟩ (.slice (some ⟨g, 0, none⟩) M.length cap)) :=
    (HB.out.trans ((HR.out.1.trans ((below_box _ _).mono hbs)).mono HB.out.size)).setCell (by show w.heap.size ≤ w.heap.size + 1; omega) _
  refine bodyPost_ret (v := .tuple #[.agg #[.slice (some ⟨g, 0, none⟩) M.length cap], .int .i64 0, .int .i64 E]) (by simp [results, Try.results50, go_sem, q0]) rfl ⟨⟨g, cap, cur, zs, rfl, ?_, H.out.2⟩, hb9⟩
  exact H.out.1.keep fun b hb hl => ⟨hb9.block b hl, .inl hb⟩

def pushZ (z : SZ) (x : Item) (g6 c6 : Nat) : SZ := ⟨{ z.x with l := z.x.l ++ [x] }, some ⟨g6, 0, none⟩, c6⟩

/-- An item more, behind append and the store of the slice. -/
theorem Cop.push {K : Nat → Prop} {w w2 w1 : World} {g cap : Nat} {cur : Array Value} {zs : List SZ} (h : Cop K w g cap cur zs) {i : Nat} {z : SZ} (hz : zs[i]? = some z) {x : Item} {g6 c6 : Nat}
    (h2 : Below w.heap.size w w2) (hown : w1.ownsRow 0 54 3 (.slice (some ⟨g6, 0, none⟩) (z.x.l.length + 1) c6) (z.x.l.length + 1) (icells z.x.l ++ x.cells))
    (hg : w2.grownBy w1 z.blk) (hat : z.blk = some g6 ∨ g6 = w2.heap.size) (hK : ∀ b, w.heap.size ≤ b → K b) :
    ∃ cur', Cop K (w1.setCell ⟨g, i * 5 + 3, none⟩ (.slice (some ⟨g6, 0, none⟩) (z.x.l.length + 1) c6)) g cap cur' (zs.set i (pushZ z x g6 c6)) := by
  have hi := (List.getElem?_eq_some_iff.1 hz).1
  have hsz := h.size
  have hln := h.len
  have hgl := lt_of_heap h.row
  have h2s := h2.size
  obtain ⟨k0, k1, k2, k3, k4⟩ := h.cells i z hz
  have hgz : z.blk ≠ some g := fun e => h.not_row hz e rfl
  have hrow1 : w1.heap[g]? = some (.cells cur 35 (0, 0)) := by
    rw [hg.block g (by omega) (fun e => hgz e.symm), h2.block g hgl]; exact h.row
  have hat1 := setCell_at w1 g (i * 5 + 3) _ 35 (.slice (some ⟨g6, 0, none⟩) (z.x.l.length + 1) c6) hrow1
  have hval : (pushZ z x g6 c6).val = .slice (some ⟨g6, 0, none⟩) (z.x.l.length + 1) c6 := by simp [pushZ, SZ.val]
  have hblk : (pushZ z x g6 c6).blk = some g6 := by unfold SZ.blk; rw [hval]; rfl
  have hg6 : g6 ≠ g := by
    rcases hat with e | e
    · exact h.not_row hz e
    · omega
  refine ⟨_, h.put hi hat1 (by simp) (fun m hm => by rw [Array.getElem?_setIfInBounds, if_neg (by omega)]) ⟨?_, ?_, ?_, ?_, ?_⟩ ?_ (fun b hb => ?_) (fun j y hne hj b hb => ?_) fun j y b hne hj hb => ?_⟩
  · rw [Array.getElem?_setIfInBounds, if_neg (by omega)]; exact k0
  · rw [Array.getElem?_setIfInBounds, if_neg (by omega)]; exact k1
  · rw [Array.getElem?_setIfInBounds, if_neg (by omega)]; exact k2
  · rw [Array.getElem?_setIfInBounds, if_pos rfl, if_pos (by omega), hval]
  · rw [Array.getElem?_setIfInBounds, if_neg (by omega)]; exact k4
  · have e1 : (pushZ z x g6 c6).x.l.length = z.x.l.length + 1 := by simp [pushZ]
    have e2 : icells (pushZ z x g6 c6).x.l = icells z.x.l ++ x.cells := by simp [pushZ, icells_append, icells]
    rw [hval, e1, e2]
    exact row_same hown fun b hb => setCell_far _ _ _ _ (by
      have : b = g6 := by simpa [Value.ownBlock] using hb.symm
      rw [this]; exact hg6)
  · rw [hblk] at hb
    injection hb with hb
    subst hb
    rcases hat with e | e
    · exact h.own i z _ hz e
    · exact hK _ (by omega)
  · rw [hblk] at hb
    injection hb with hb
    subst hb
    rcases hat with e | e
    · exact h.apart i j z y (fun e => hne e.symm) hz hj _ e
    · intro e'
      have := ((h.rows j y hj).lt _ e').2
      omega
  · have hl := ((h.rows j y hj).lt b hb).2
    rw [setCell_far _ _ _ _ (h.not_row hj hb), hg.block b (by omega) (fun e => h.apart j i y z hne hj hz b hb e.symm), h2.block b hl]

set_option maxRecDepth 100000 in
set_option maxHeartbeats 4000000 in
theorem allocR_yes (K : Nat → Prop) (w : World) (g cap : Nat) (cur : Array Value) (zs : List SZ) (M : Tr) (i sz al : Int) (hC : Cop K w g cap cur zs) (hs : zs.map (·.x) = save M) (hg : Good M) (he : (give M i sz al).2 = 0) :
    Calls Try.prog 50 #[.agg #[.slice (some ⟨g, 0, none⟩) M.length cap], .int .i64 i, .int .i64 sz, .int .i64 al] w fun e w' => RefOut K w (addItem M i.toNat ⟨(give M i sz al).1, sz, -1⟩) (fun v => e = .returned (.tuple #[v, .int .i64 (give M i sz al).1, .int .i64 0])) w' ∧ Below w.heap.size w w' := by
  obtain ⟨n, hf, hgi⟩ : ∃ n, find M i = some n ∧ n.l.length < 200 := by
    cases hf : find M i with
    | none => simp [give, hf] at he
    | some n =>
      refine ⟨n, rfl, ?_⟩
      have h1 := (hg.node _ _ (find_some hf).2).len
      by_cases h2 : n.l.length = 200
      · simp [give, hf, h2] at he
        split at he <;> simp at he
      · omega
  obtain ⟨h0, hi⟩ := find_some hf
  obtain ⟨k, rfl⟩ := Int.eq_ofNat_of_zero_le h0
  rw [Int.toNat_natCast] at hi ⊢
  have hkl := (List.getElem?_eq_some_iff.1 hi).1
  have hsz := aW_size w (some ⟨g, 0, none⟩) cap M
  have hbx := aW_box w (some ⟨g, 0, none⟩) cap M
  have hre := aW_res w (some ⟨g, 0, none⟩) cap M
  have hcl := lt_of_heap hC.row
  have hzl : zs.length = M.length := by have := congrArg List.length hs; rw [List.length_map, save_length] at this; exact this
  have hC2 := hC.below (aW_below w (some ⟨g, 0, none⟩) cap M)
  have HGv := Lib.hid (giveR_ok K _ (some ⟨g, 0, none⟩) cap M k sz al (hC2.stK hs) hg)
  unfold GiveR at HGv
  have hit : gItem M k sz al = ⟨(give M k sz al).1, sz, -1⟩ := by unfold gItem; rw [if_pos he]
  rw [hit, he] at HGv
  have HCp := Lib.hid (fun w2 (hb : Below (aW w (some ⟨g, 0, none⟩) cap M).heap.size _ w2) => copy_ok K w2 g cap cur zs (hC2.below hb) (by rw [hzl]; exact hg.pos) (by rw [hzl]; exact hg.len) (fun j y hy => by
    have h1 : (save M)[j]? = some y.x := by rw [← hs, List.getElem?_map, hy]; rfl
    rw [save, List.getElem?_map] at h1
    cases e : M[j]? with
    | none => rw [e] at h1; cases h1
    | some o =>
      rw [e] at h1
      injection h1 with h1
      rw [← h1]
      cases o with
      | none => exact Nat.zero_le _
      | some q => exact (hg.node j q e).len))
  rw [hzl] at HCp
  have HB := Lib.hid (aW_below w (some ⟨g, 0, none⟩) cap M)
  have H := Lib.hid (And.intro hs (And.intro hi hzl))
  have hm64 := hg.len
  clear hC hC2 hs hg he hf hi h0 hit hzl
  generalize (give M k sz al).1 = U at *
  go_enter Try.func50, Try.ntmps50
  go_wp2_with (go_at_call 58; fail)
  have haW : (w.alloc (.cells #[.slice (some ⟨g, 0, none⟩) M.length cap] 28)).alloc (.cells #[.slice none 0 0] 28) = aW w (some ⟨g, 0, none⟩) cap M := rfl
  rw [haW]
  generalize aW w (some ⟨g, 0, none⟩) cap M = W2 at *
  clear haW
  refine HGv.out.mono ?_
  rintro e w1 ⟨rfl, hb1⟩
  have hbs := hb1.size
  replace hbx := (hb1.block _ (show w.heap.size < W2.heap.size by omega)).trans hbx
  obtain ⟨x0, x1⟩ := one_cell hbx
  have HR := Lib.hid (And.intro hb1 hre)
  clear hb1 hbx hre
  have x2 := ((below_box w1 (.cells #[.int .i64 U, .int .i64 sz, .int .i64 (-1)] 54)).cell (p := ⟨w.heap.size, 0, none⟩) (show w.heap.size < w1.heap.size by omega)).trans x0
  have hnew := heap_alloc_new w1 (.cells #[.int .i64 U, .int .i64 sz, .int .i64 (-1)] 54)
  have HBx := Lib.hid (below_box w1 (.cells #[.int .i64 U, .int .i64 sz, .int .i64 (-1)] 54))
  have hsz1 : (w1.alloc (.cells #[.int .i64 U, .int .i64 sz, .int .i64 (-1)] 54)).heap.size = w1.heap.size + 1 := by simp
  go_wp2_with (go_at_call 59; fail)
  generalize (w1.alloc (.cells #[.int .i64 U, .int .i64 sz, .int .i64 (-1)] 54)) = W3 at *
  refine (HCp.out W3 (HR.out.1.trans (HBx.out.mono hbs))).mono ?_
  rintro e w3 ⟨⟨g', cap', cur', zs', rfl, hC3, hs3⟩, hb3⟩
  have hb3s := hb3.size
  have hX3 := (hb3.block _ (show w1.heap.size < W3.heap.size by omega)).trans hnew
  have hre3 := (hb3.block _ (show w.heap.size + 1 < W3.heap.size by omega)).trans ((HBx.out.block _ (show w.heap.size + 1 < w1.heap.size by omega)).trans ((HR.out.1.block _ (show w.heap.size + 1 < W2.heap.size by omega)).trans HR.out.2))
  obtain ⟨z, hz, hzx⟩ := sz_at (hs3.trans H.out.1) H.out.2.1
  have hC4 := hC3.below (below_box w3 (.cells #[.slice (some ⟨g', 0, none⟩) M.length cap'] 28))
  have hB4 := below_box w3 (.cells #[.slice (some ⟨g', 0, none⟩) M.length cap'] 28)
  obtain ⟨_, _, _, d3, _, d5⟩ := hC4.cell hz
  have hrow := hC4.rows k z hz
  have hblk : z.blk ≠ some g' := fun e => hC4.not_row hz e rfl
  have hzl2 : z.x.l = n.l := by rw [hzx]; rfl
  obtain ⟨hr1, hr2⟩ := row_len (RowK.of_row (K := fun _ => True) hrow fun _ _ => trivial)
  replace d5 := d5 (k * 5 + 3)
  have hgl := lt_of_heap hC4.row
  have hln := hC4.len
  have hlz : zs'.length = M.length := by have := congrArg List.length hs3; rw [List.length_map, List.length_map, H.out.2.2] at this; exact this
  have hcm := hC4.most
  unfold maxLen at hcm
  rw [hlz] at hln
  have hsz4 : (w3.alloc (.cells #[.slice (some ⟨g', 0, none⟩) M.length cap'] 28)).heap.size = w3.heap.size + 1 := by simp
  have t0 : (w3.alloc (.cells #[.slice (some ⟨g', 0, none⟩) M.length cap'] 28)).cell? ⟨w3.heap.size, 0, none⟩ = some (.slice (some ⟨g', 0, none⟩) M.length cap') := by rw [World.cell?_alloc_at _ _ _ _ rfl]; rfl
  have hX4 := (hB4.block _ (show w1.heap.size < w3.heap.size by omega)).trans hX3
  have hre4 := (hB4.block _ (show w.heap.size + 1 < w3.heap.size by omega)).trans hre3
  obtain ⟨e0, e1, e2, _⟩ := three_cells hX4
  rw [hzl2] at hrow hr1 d3
  have hrow' : ∀ o, ((w3.alloc (.cells #[.slice (some ⟨g', 0, none⟩) M.length cap'] 28)).drew.alloc o).ownsRow 0 54 3 (.slice z.A n.l.length z.c) n.l.length (icells n.l) := fun o => by
    have h1 : (w3.alloc (.cells #[.slice (some ⟨g', 0, none⟩) M.length cap'] 28)).drew.ownsRow 0 54 3 (.slice z.A n.l.length z.c) n.l.length (icells n.l) := by
      have := hrow
      unfold SZ.val at this
      rw [hzl2] at this
      exact this
    exact h1.alloc o
  have hblk' : (Value.slice z.A n.l.length z.c).ownBlock ≠ some g' := by
    unfold SZ.blk SZ.val at hblk
    rw [hzl2] at hblk
    exact hblk
  have hblt : ∀ b, (Value.slice z.A n.l.length z.c).ownBlock = some b → W3.heap.size ≤ b := fun b hb => hC4.own k z b hz (by unfold SZ.blk SZ.val; rw [hzl2]; exact hb)
  have hbt : ∀ b, (Value.slice z.A n.l.length z.c).ownBlock = some b → b < w3.heap.size := fun b hb => ((hC3.rows k z hz).lt b (by unfold SZ.val; rw [hzl2]; exact hb)).2
  obtain ⟨i0, z0, hi0, hz0, hz1, hz2, hz3⟩ := info_open item_info
  have HN := Lib.hid (And.intro hC4 (And.intro hs3 (And.intro hz (And.intro hzx (And.intro hre4 (And.intro hblt (And.intro hb3 (And.intro hB4 (And.intro hrow' (And.intro hbt hC3))))))))))
  have hgt : g' < w3.heap.size := lt_of_heap hC3.row
  clear hC3 hs3 hb3 hC4 hrow hz hzx hX3 hre3 hX4 hre4 hblt hB4 hrow' hblk hbt x0 x1 x2 hnew
  have HBlk := Lib.hid (show z.blk = (Value.slice z.A n.l.length z.c).ownBlock by unfold SZ.blk SZ.val; rw [hzl2])
  generalize z.A = A at *
  generalize z.c = c at *
  go_wp2_with fail
  generalize hW4 : (w3.alloc (.cells #[.slice (some ⟨g', 0, none⟩) M.length cap'] 28)) = W4 at *
  have n1 := World.new_ne W4 _ t0
  have n2 := World.new_ne W4 _ d3
  have n3 := World.new_ne W4 _ e0
  have hw4 : w3.heap.size < W4.heap.size := by omega
  have hx4 : w1.heap.size < W4.heap.size := by omega
  have hg4 : g' < W4.heap.size := by omega
  have bt : some w3.heap.size ≠ (Value.slice A n.l.length c).ownBlock := fun e => by have := HN.out.2.2.2.2.2.2.2.2.2.1 _ e.symm; omega
  have bx : some w1.heap.size ≠ (Value.slice A n.l.length c).ownBlock := fun e => by have := HN.out.2.2.2.2.2.1 _ e.symm; omega
  have bg : some g' ≠ (Value.slice A n.l.length c).ownBlock := fun e => hblk' e.symm
  have s5 : (W4.alloc (.cells #[.int .i64 U, .int .i64 sz, .int .i64 (-1)] 54)).drew.cell? ⟨w3.heap.size, 0, none⟩ = some (.slice (some ⟨g', 0, none⟩) M.length cap') ∧ (W4.alloc (.cells #[.int .i64 U, .int .i64 sz, .int .i64 (-1)] 54)).drew.cell? ⟨g', k * 5 + 3, none⟩ = some (.slice A n.l.length c) ∧ (W4.alloc (.cells #[.int .i64 U, .int .i64 sz, .int .i64 (-1)] 54)).drew.frozen? ⟨g', k * 5 + 3, none⟩ = false ∧ (W4.alloc (.cells #[.int .i64 U, .int .i64 sz, .int .i64 (-1)] 54)).drew.cell? ⟨w1.heap.size, 0, none⟩ = some (.int .i64 U) ∧ (W4.alloc (.cells #[.int .i64 U, .int .i64 sz, .int .i64 (-1)] 54)).drew.cell? ⟨w1.heap.size, 1, none⟩ = some (.int .i64 sz) ∧ (W4.alloc (.cells #[.int .i64 U, .int .i64 sz, .int .i64 (-1)] 54)).drew.cell? ⟨w1.heap.size, 2, none⟩ = some (.int .i64 (-1)) :=
    ⟨(World.cell?_alloc_lt W4 _ _ hw4).trans t0, (World.cell?_alloc_lt W4 _ _ hg4).trans d3, (World.frozen?_alloc_old W4 _ _ (Nat.ne_of_lt hg4)).trans d5, (World.cell?_alloc_lt W4 _ _ hx4).trans e0, (World.cell?_alloc_lt W4 _ _ hx4).trans e1, (World.cell?_alloc_lt W4 _ _ hx4).trans e2⟩
  have hsd : (W4.alloc (.cells #[.int .i64 U, .int .i64 sz, .int .i64 (-1)] 54)).drew.heap.size = W4.heap.size + 1 := by show (W4.alloc _).heap.size = _; simp
  obtain ⟨r0, r1, r2, r3, r4, r5⟩ := s5
  have ntg : w3.heap.size ≠ g' := by omega
  have nxg : w1.heap.size ≠ g' := by have := HN.out.2.2.2.2.2.2.2.2.2.2.low; omega
  have hnw : ∀ j u, (Item.cells ⟨U, sz, -1⟩)[j]? = some u → (W4.alloc (.cells #[.int .i64 U, .int .i64 sz, .int .i64 (-1)] 54)).drew.cell? ((⟨w3.heap.size + 1, 0, none⟩ : Addr).add j) = some u := by
    rw [← hsz4]; exact World.news_of_block (heap_alloc_new _ _)
  have HNW := Lib.hid hnw
  clear hnw
  go_region_law ((refine step_append_lies _ (by rfl) (.tmp 36) (.tmp 38) _ (by rfl) 0 54 i0 z0 3 24 Try.underlying33 hi0 hz0 hz1 hz2 hz3 (by omega) (.slice A n.l.length c) n.l.length (icells n.l) (by rfl) (HN.out.2.2.2.2.2.2.2.2.1 _) ⟨w3.heap.size + 1, 0, none⟩ 1 1 (Item.cells ⟨U, sz, -1⟩) (by rfl) (by rfl) HNW.out (by simp [Item.cells, Value.oneCell']) (by omega) (by unfold maxLen; omega) (by omega) (Nat.zero_le _) (w3.heap.size + 2) (by rw [hsd, hsz4]) ?_; intro g6 cap6 w6 hown6 hgrow6 hat6 hlt6; have u0 : w6.cell? ⟨w3.heap.size, 0, none⟩ = some (.slice (some ⟨g', 0, none⟩) M.length cap') := (hgrow6.cell_far ⟨_, _, none⟩ (by rw [hsd]; exact Nat.lt_succ_of_lt hw4) bt).trans r0; have u1 : w6.cell? ⟨g', k * 5 + 3, none⟩ = some (.slice A n.l.length c) := (hgrow6.cell_far ⟨_, _, none⟩ (by rw [hsd]; exact Nat.lt_succ_of_lt hg4) bg).trans r1; have u2 : w6.frozen? ⟨g', k * 5 + 3, none⟩ = false := (hgrow6.frozen_far ⟨_, _, none⟩ (by rw [hsd]; exact Nat.lt_succ_of_lt hg4) bg).trans r2; have u3 : w6.cell? ⟨w1.heap.size, 0, none⟩ = some (.int .i64 U) := (hgrow6.cell_far ⟨_, _, none⟩ (by rw [hsd]; exact Nat.lt_succ_of_lt hx4) bx).trans r3; have u4 : w6.cell? ⟨w1.heap.size, 1, none⟩ = some (.int .i64 sz) := (hgrow6.cell_far ⟨_, _, none⟩ (by rw [hsd]; exact Nat.lt_succ_of_lt hx4) bx).trans r4; have u5 : w6.cell? ⟨w1.heap.size, 2, none⟩ = some (.int .i64 (-1)) := (hgrow6.cell_far ⟨_, _, none⟩ (by rw [hsd]; exact Nat.lt_succ_of_lt hx4) bx).trans r5))
  all_goals
    obtain ⟨W7, hW7⟩ : ∃ W7, W7 = w6.setCell ⟨g', k * 5 + 3, none⟩ (.slice (some ⟨g6, 0, none⟩) (n.l.length + 1) cap6) := ⟨_, rfl⟩
    have hb5 : Below W4.heap.size W4 (W4.alloc (.cells #[.int .i64 U, .int .i64 sz, .int .i64 (-1)] 54)).drew := (below_box W4 _).drew
    have hpush := HN.out.1.push HN.out.2.2.1 (x := ⟨U, sz, -1⟩) (w2 := (W4.alloc (.cells #[.int .i64 U, .int .i64 sz, .int .i64 (-1)] 54)).drew) hb5 (by rw [hzl2]; exact hown6) (by rw [HBlk.out]; exact hgrow6) (by rw [HBlk.out, hsd, hsz4]; exact hat6) (fun b hb => by omega)
    rw [hzl2, ← hW7] at hpush
    obtain ⟨cur7, hpush⟩ := hpush
    have hre7 : W7.heap[w.heap.size + 1]? = some (.cells #[.slice none 0 0] 28 (0, 0)) := by
      rw [hW7, setCell_far _ _ _ _ (by have := HN.out.2.2.2.2.2.2.2.2.2.2.low; show w.heap.size + 1 ≠ g'; omega), hgrow6.block _ (by rw [hsd]; omega) (fun e => by have := HN.out.2.2.2.2.2.1 _ e.symm; omega), hb5.block _ (by omega)]
      exact HN.out.2.2.2.2.1
    have v0 : W7.cell? ⟨w3.heap.size, 0, none⟩ = some (.slice (some ⟨g', 0, none⟩) M.length cap') := by rw [hW7]; exact (World.cell?_of_block (a := ⟨_, _, none⟩) (setCell_far w6 ⟨g', k * 5 + 3, none⟩ _ _ ntg)).trans u0
    have v3 : W7.cell? ⟨w1.heap.size, 0, none⟩ = some (.int .i64 U) := by rw [hW7]; exact (World.cell?_of_block (a := ⟨_, _, none⟩) (setCell_far w6 ⟨g', k * 5 + 3, none⟩ _ _ nxg)).trans u3
    have hb7 : Below w.heap.size w W7 := by
      have h1 := HB.out
      have h2 := HR.out.1
      have h3 := HBx.out
      have h4 := HN.out.2.2.2.2.2.2.1
      have h5 := HN.out.2.2.2.2.2.2.2.1
      have a1 := h1.size
      have a2 := h2.size
      have h6 : Below w.heap.size w W4 := h1.trans (((h2.trans ((h3.trans ((h4.trans (h5.mono hb3s)).mono (by omega))).mono a2))).mono a1)
      have h7 : Below w.heap.size w w6 := (h6.trans (hb5.mono (by omega))).grown hgrow6 (by rw [hsd]; omega) (fun b hb => by have := HN.out.2.2.2.2.2.1 _ hb; omega)
      rw [hW7]
      exact h7.setCell (by have := HN.out.2.2.2.2.2.2.2.2.2.2.low; show w.heap.size ≤ g'; omega) _
    obtain ⟨w0, wf⟩ := one_cell hre7
    have H7 := Lib.hid (And.intro hpush (And.intro hre7 hb7))
    clear hpush hre7 hb7 hb5 hown6 hgrow6 hat6 u0 u1 u2 u3 u4 u5 r0 r1 r2 r3 r4 r5 t0 d3 d5 e0 e1 e2
    rw [← hW7]
    clear hW7
    go_wp2_with fail
    go_region
    go_wp2
    have h9 := setCell_at W7 (w.heap.size + 1) 0 _ _ (.slice (some ⟨g', 0, none⟩) M.length cap') H7.out.2.1
    obtain ⟨q0, _⟩ := one_cell h9
    have hadd : addItem M k ⟨U, sz, -1⟩ = M.set k (some { n with l := n.l ++ [⟨U, sz, -1⟩] }) := addItem_eq H.out.2.1 _
    have hmap : (zs'.set k (pushZ z ⟨U, sz, -1⟩ g6 cap6)).map (·.x) = save (addItem M k ⟨U, sz, -1⟩) := by
      rw [hadd, List.map_set, HN.out.2.1, H.out.1]
      have : (pushZ z ⟨U, sz, -1⟩ g6 cap6).x = saveNode (some { n with l := n.l ++ [⟨U, sz, -1⟩] }) := by
        unfold pushZ
        rw [HN.out.2.2.2.1]
        rfl
      rw [this]
      simp [save, List.map_set]
    have hlen2 : (addItem M k ⟨U, sz, -1⟩).length = M.length := by rw [hadd, List.length_set]
    refine bodyPost_ret (v := .tuple #[.agg #[.slice (some ⟨g', 0, none⟩) M.length cap'], .int .i64 U, .int .i64 0]) (by simp [results, Try.results50, go_sem, q0]) rfl ⟨⟨g', cap', cur7, _, by rw [hlen2], ?_, hmap⟩, ?_⟩
    · refine H7.out.1.keep fun b hb _ => ⟨setCell_far W7 ⟨w.heap.size + 1, 0, none⟩ _ b (by show b ≠ w.heap.size + 1; omega), .inr (by omega)⟩
    · first | exact H7.out.2.2.setCell (p := ⟨w.heap.size + 1, 0, none⟩) (by show w.heap.size ≤ w.heap.size + 1; omega) _ | exact (H7.out.2.2.setCell (p := ⟨w.heap.size + 1, 0, none⟩) (by show w.heap.size ≤ w.heap.size + 1; omega) _).drew | exact (H7.out.2.2.drew.setCell (p := ⟨w.heap.size + 1, 0, none⟩) (by show w.heap.size ≤ w.heap.size + 1; omega) _)

theorem allocR_ok (K : Nat → Prop) (w : World) (g cap : Nat) (cur : Array Value) (zs : List SZ) (M : Tr) (i sz al : Int) (hC : Cop K w g cap cur zs) (hs : zs.map (·.x) = save M) (hg : Good M) :
    Calls Try.prog 50 #[.agg #[.slice (some ⟨g, 0, none⟩) M.length cap], .int .i64 i, .int .i64 sz, .int .i64 al] w fun e w' => RefOut K w (alloc M i sz al).1 (fun v => e = .returned (.tuple #[v, .int .i64 (alloc M i sz al).2.1, .int .i64 (alloc M i sz al).2.2])) w' ∧ Below w.heap.size w w' := by
  by_cases he : (give M i sz al).2 = 0
  · have := allocR_yes K w g cap cur zs M i sz al hC hs hg he
    unfold alloc
    rw [if_pos he]
    exact this
  · have := allocR_err K w g cap cur zs M i sz al hC hs hg he
    unfold alloc
    rw [if_neg he]
    exact this
end Ne
end Go.Proofs.Ytllmddhahpegmaa
namespace Go.Proofs.Ytllmddhahpegmaa
open Go.RowKit
namespace Ne

theorem trim_set {t : Tr} {i : Nat} {n y : Node} (h : t[i]? = some (some n)) : trim (t.set i (some y)) = (trim t).set i (some y) := by
  obtain ⟨m, h1, h2, h3, h4, h5⟩ := trim_exists t ⟨i, n, h⟩
  have him : i < m := by
    rcases Nat.lt_or_ge i m with h6 | h6
    · exact h6
    · have := h4 i h6 (List.getElem?_eq_some_iff.1 h).1
      rw [h] at this; cases this
  have hil := (List.getElem?_eq_some_iff.1 h).1
  have h6 := trim_take (t.set i (some y)) m (by simpa using h2) (fun j h6 h7 => by
    rw [List.getElem?_set_ne (by omega)]
    exact h4 j h6 (by simpa using h7)) ⟨h1, by
      by_cases e : i = m - 1
      · subst e
        rw [List.getElem?_set_self hil]; simp
      · rw [List.getElem?_set_ne e]; exact h5⟩
  rw [h6, h3, List.take_set]

/-- The state before tidy. -/
structure RewS (KB : Nat → Prop) (w : World) (b : Nat) (g cap m : Nat) (zs : List SZ) (wx : World) : Prop where
  cop : ∃ cur, Cop KB wx g cap cur zs
  res : wx.heap[w.heap.size + 1]? = some (.cells #[.slice none 0 0] 28 (0, 0))
  box : wx.heap[b]? = some (.cells #[.slice (some ⟨g, 0, none⟩) m cap] 28 (0, 0))
  bel : Below w.heap.size w wx

set_option maxRecDepth 100000 in
set_option maxHeartbeats 4000000 in
theorem rewindR_yes (K : Nat → Prop) (w : World) (g cap : Nat) (cur : Array Value) (zs : List SZ) (M : Tr) (k m f : Nat) (n : Node) (hC : Cop K w g cap cur zs) (hs : zs.map (·.x) = save M) (hg : Good M) (hi : M[k]? = some (some n)) (hm : m ≤ n.l.length)
    (hS : ShutOk (f + 1) M (n.l.drop m)) (hopen : (shut (f + 1) M (n.l.drop m))[k]? = some (some n)) :
    Calls Try.prog 46 #[.agg #[.slice (some ⟨g, 0, none⟩) M.length cap], .int .i64 k, .int .i64 m] w fun e w' => RefOut K w ((trim (shut (f + 1) M (n.l.drop m))).set k (some { n with l := tidy (n.l.take m) })) (fun v => e = .returned (.tuple #[v, .int .i64 0])) w' ∧ Below w.heap.size w w' := by
  have hkl := (List.getElem?_eq_some_iff.1 hi).1
  have hn200 := (hg.node _ _ hi).len
  have hsz := aW_size w (some ⟨g, 0, none⟩) cap M
  have hbx := aW_box w (some ⟨g, 0, none⟩) cap M
  have hre := aW_res w (some ⟨g, 0, none⟩) cap M
  have hcl := lt_of_heap hC.row
  have hm64 := hg.len
  have hzl : zs.length = M.length := by have := congrArg List.length hs; rw [List.length_map, save_length] at this; exact this
  have hC2 := hC.below (aW_below w (some ⟨g, 0, none⟩) cap M)
  obtain ⟨z0, hz0, hzx0⟩ := sz_at hs hi
  obtain ⟨_, _, _, c3, _, _⟩ := hC2.cell hz0
  have hzl0 : z0.x.l = n.l := by rw [hzx0]; rfl
  obtain ⟨hr01, hr02⟩ := row_len (RowK.of_row (K := fun _ => True) (hC2.rows k z0 hz0) fun _ _ => trivial)
  rw [hzl0] at c3 hr01
  have hcap0 := hC.len
  have hcap1 := hC.most
  unfold maxLen at hcap1
  rw [hzl] at hcap0
  have hgl2 := lt_of_heap hC2.row
  have HOy := Lib.hid (open_yes K _ (some ⟨g, 0, none⟩) cap M k n (hC2.stK hs) (by rw [find, if_neg (by omega), Int.toNat_natCast, hi]; rfl))
  have HCp := Lib.hid (fun w2 (hb : Below (aW w (some ⟨g, 0, none⟩) cap M).heap.size (aW w (some ⟨g, 0, none⟩) cap M) w2) => copy_ok K w2 g cap cur zs (hC2.below hb) (by rw [hzl]; exact hg.pos) (by rw [hzl]; exact hg.len) (fun j y hy => by
    have h1 : (save M)[j]? = some y.x := by rw [← hs, List.getElem?_map, hy]; rfl
    rw [save, List.getElem?_map] at h1
    cases e : M[j]? with
    | none => rw [e] at h1; cases h1
    | some o =>
      rw [e] at h1
      injection h1 with h1
      rw [← h1]
      cases o with
      | none => exact Nat.zero_le _
      | some q => exact (hg.node j q e).len))
  rw [hzl] at HCp
  have HB := Lib.hid (aW_below w (some ⟨g, 0, none⟩) cap M)
  have H := Lib.hid (And.intro hs (And.intro hi (And.intro hzl (And.intro hS hopen))))
  clear hC hC2 hs hg hi hzl hS hopen hz0 hzx0 hzl0
  generalize z0.A = A0 at *
  generalize z0.c = c0 at *
  have HL : Hid (∃ L, L = n.l.length) := Lib.hid ⟨_, rfl⟩
  go_enter Try.func46, Try.ntmps46
  go_wp2_with (go_at_call 52; fail)
  have haW : (w.alloc (.cells #[.slice (some ⟨g, 0, none⟩) M.length cap] 28)).alloc (.cells #[.slice none 0 0] 28) = aW w (some ⟨g, 0, none⟩) cap M := rfl
  rw [haW]
  generalize aW w (some ⟨g, 0, none⟩) cap M = W2 at *
  clear haW
  refine HOy.out.mono ?_
  rintro e w1 ⟨rfl, hb1⟩
  have hbs := hb1.size
  have hbx1 := (hb1.block _ (show w.heap.size < W2.heap.size by omega)).trans hbx
  have hre1 := (hb1.block _ (show w.heap.size + 1 < W2.heap.size by omega)).trans hre
  obtain ⟨x0, x1⟩ := one_cell hbx1
  replace c3 := (hb1.cell (p := ⟨g, _, none⟩) hgl2).trans c3
  have HC5 := Lib.hid (HCp.out w1 hb1)
  have H1 := Lib.hid (And.intro hb1 (And.intro hbx1 hre1))
  clear hb1 hbx1 hre1 hbx hre
  have hm0 : (0 : Int) ≤ (m : Int) := by omega
  have hml : (m : Int) ≤ (n.l.length : Int) := by omega
  go_wp2_with (go_at_call 59; fail)
  refine HC5.out.mono ?_
  rintro e w5 ⟨⟨g', cap', cur', zs', rfl, hC5, hs5⟩, hb5⟩
  have hb5s := hb5.size
  have hre5 := (hb5.block _ (show w.heap.size + 1 < w1.heap.size by omega)).trans H1.out.2.2
  have hlz : zs'.length = M.length := by have := congrArg List.length hs5; rw [List.length_map, List.length_map, H.out.2.2.1] at this; exact this
  have hgt := lt_of_heap hC5.row
  have hglo : w1.heap.size ≤ g' := hC5.low
  have hC6 : Cop (fun b => w1.heap.size ≤ b ∧ b ≠ w5.heap.size) w5 g' cap' cur' zs' :=
    ⟨⟨hglo, by omega⟩, hC5.row, hC5.size, hC5.len, hC5.most, hC5.cells, hC5.rows, fun i z b hz hb => ⟨hC5.own i z b hz hb, by have := ((hC5.rows i z hz).lt b hb).2; omega⟩, hC5.apart⟩
  obtain ⟨z, hz, hzx⟩ := sz_at (hs5.trans H.out.1) H.out.2.1
  have hbn := below_box w5 (.cells #[.slice (some ⟨g', 0, none⟩) M.length cap'] 28)
  have hC7 := hC6.below hbn
  have hbox7 := heap_alloc_new w5 (.cells #[.slice (some ⟨g', 0, none⟩) M.length cap'] 28)
  have hre7 := (hbn.block _ (lt_of_heap hre5)).trans hre5
  have hB7 : Below w.heap.size w (w5.alloc (.cells #[.slice (some ⟨g', 0, none⟩) M.length cap'] 28)) := by
    have h1 := HB.out
    have h2 := H1.out.1
    have a1 := h1.size
    have a2 := h2.size
    exact h1.trans ((h2.trans ((hb5.trans (hbn.mono hb5s)).mono a2)).mono a1)
  have hs7 : (w5.alloc (.cells #[.slice (some ⟨g', 0, none⟩) M.length cap'] 28)).heap.size = w5.heap.size + 1 := by simp
  obtain ⟨_, _, _, d3, _, _⟩ := hC7.cell hz
  have hrow := hC7.rows k z hz
  have hzl2 : z.x.l = n.l := by rw [hzx]; rfl
  have hnr : ∀ b, z.blk = some b → b ≠ g' := fun b hb => hC7.not_row hz hb
  have hRow := fun (j : Nat) (x : Item) (hj : n.l[j]? = some x) => row_at' hrow (j := j) (x := x) (by rw [hzl2]; exact hj)
  obtain ⟨hr1, hr2⟩ := row_len (RowK.of_row (K := fun _ => True) hrow fun _ _ => trivial)
  obtain ⟨t0, _⟩ := one_cell hbox7
  have hln := hC7.len
  have hcm := hC7.most
  unfold maxLen at hcm
  rw [hlz] at hln
  rw [hzl2] at d3 hr1
  have HZ := Lib.hid (And.intro hC7 (And.intro hs5 (And.intro hz (And.intro hzx (And.intro hzl2 (And.intro hlz (And.intro hbox7 (And.intro hre7 (And.intro hB7 hRow)))))))))
  clear hC5 hC6 hC7 hs5 hb5 hz hzx hre5 hre7 hbox7 hB7 hbn hrow hRow hzl2 hlz c3 x0 x1
  have HA : Hid (z.A = z.A ∧ z.c = z.c) := Lib.hid ⟨rfl, rfl⟩
  generalize hzA : z.A = A at *
  generalize hzc : z.c = c at *
  have HZA := Lib.hid (And.intro hzA hzc)
  clear hzA hzc HA
  go_wp2_with fail
  generalize (w5.alloc (.cells #[.slice (some ⟨g', 0, none⟩) M.length cap'] 28)) = W7 at *
  clear d3
  have hgl7 : g' < W7.heap.size := by omega
  have hbg : w5.heap.size ≠ g' := by omega
  have hrg : w.heap.size + 1 ≠ g' := by omega
  go_loopw [10] (fun i wr => ∃ q : Nat, m ≤ q ∧ q ≤ n.l.length ∧ i = .int .i64 q ∧ Grow1 g' W7 wr ∧ ∃ cur1 zs1, Cop (fun b => w1.heap.size ≤ b ∧ b ≠ w5.heap.size) wr g' cap' cur1 zs1 ∧ zs1.map (·.x) = save (((n.l.drop m).take (q - m)).foldl (shutStep f) M) ∧ Sub zs' zs1) (fun i _ => n.l.length - (intOf i).toNat)
  case atStart =>
    refine ⟨m, Nat.le_refl _, hm, rfl, Grow1.refl _ _, cur', zs', HZ.out.1, ?_, Sub.refl _⟩
    rw [Nat.sub_self]
    exact HZ.out.2.1.trans H.out.1
  case round =>
    obtain ⟨q, hq1, hq2, rfl, hgr, cur1, zs1, hC, hs, hsub⟩ := hrel
    have hgs := hgr.size
    have r1 := (World.cell?_of_block (a := ⟨w5.heap.size, 0, none⟩) (hgr.block _ (by show w5.heap.size < _; omega) hbg)).trans t0
    have HSub := Lib.hid hsub
    clear hsub
    by_cases hlt : q < n.l.length
    · obtain ⟨x, hx⟩ : ∃ x, n.l[q]? = some x := ⟨_, List.getElem?_eq_getElem hlt⟩
      obtain ⟨gz, o', hAz, hb', hg', _, _, k3⟩ := HZ.out.2.2.2.2.2.2.2.2.2 q x hx
      subst hAz
      have hgg := hnr gz hb'
      replace k3 := (World.cell?_of_block (a := ⟨gz, o' + q * 3 + 2, none⟩) (hgr.block gz hg' hgg)).trans k3
      have hxd : (n.l.drop m)[q - m]? = some x := by rw [List.getElem?_drop, show m + (q - m) = q by omega]; exact hx
      have hft := fold_take f M (n.l.drop m) (q - m) x hxd
      rw [show q - m + 1 = q + 1 - m by omega] at hft
      have hSx := H.out.2.2.2.1 (q - m) x hxd
      have hfl := fold_length f ((n.l.drop m).take (q - m)) M
      have HX := Lib.hid (And.intro hx hft)
      clear hx hft hxd
      by_cases hc0 : 0 ≤ x.c
      · obtain ⟨q1, hq, hql, hok⟩ := hSx hc0
        have hql2 : x.c.toNat < M.length := by rw [← hfl]; exact (List.getElem?_eq_some_iff.1 hq).1
        have hst : shutStep f (((n.l.drop m).take (q - m)).foldl (shutStep f) M) x = (shut f (((n.l.drop m).take (q - m)).foldl (shutStep f) M) q1.l).set x.c.toNat none := by
          rw [shutStep, if_pos hc0, itemsOf, hq]
        have HCall := Lib.hid (fun w2 (h2 : Below wr.heap.size wr w2) => shutR_sub _ g' cap' f _ zs1 cur1 w2 x.c.toNat q1 (hC.below h2) hs (by rw [hfl]; exact hm64) hq hql hok)
        rw [hfl] at HCall
        have HR := Lib.hid (And.intro hgr hst)
        clear hgr hC hs hSx hfl hq hok hst
        generalize hy : x.c = y at *
        obtain ⟨y, rfl⟩ := Int.eq_ofNat_of_zero_le hc0
        rw [Int.toNat_natCast] at HCall hql2
        have HY := Lib.hid hy
        clear hy hc0
        go_wp2_with fail
        go_region_held3 (fun w' => w'.cell? ⟨w5.heap.size, 0, none⟩ = some (.slice (some ⟨g', 0, none⟩) M.length cap') ∧ w'.cell? ⟨gz, o' + q * 3 + 2, none⟩ = some (.int .i64 y))
          (first | go_keep | (refine ⟨(World.cell?_of_block (a := ⟨w5.heap.size, _, none⟩) (hg3.block _ ?_ hbg)).trans ?_, (World.cell?_of_block (a := ⟨gz, _, none⟩) (hg3.block _ ?_ hgg)).trans ?_⟩ <;> first | (simp; omega) | go_keep))
          (first | (go_at_call 60; refine (HCall.out _ (by first | exact (Below.refl _ _).drew | exact Below.refl _ _)).mono ?_; rintro e w3 ⟨rfl, hg3, cur3, zs3, hC3, hs3, hsub3⟩))
        go_wp2
        go_roundw
        case rel => exact ⟨q + 1, by omega, by omega, by go_num, HR.out.1.trans ((Grow1.refl g' wr).drew.trans hg3), cur3, zs3, hC3, by rw [HX.out.2, HR.out.2, Int.toNat_natCast]; exact hs3, HSub.out.trans hsub3⟩
        case measure => simp [intOf]; omega
      · have hst : shutStep f (((n.l.drop m).take (q - m)).foldl (shutStep f) M) x = ((n.l.drop m).take (q - m)).foldl (shutStep f) M := by
          rw [shutStep, if_neg hc0]
        have HR := Lib.hid (And.intro hgr (And.intro hC (And.intro hs hst)))
        clear hgr hC hs hSx hfl hst
        go_wp2
        go_roundw
        case rel => exact ⟨q + 1, by omega, by omega, by go_num, HR.out.1, cur1, zs1, HR.out.2.1, by rw [HX.out.2, HR.out.2.2.2]; exact HR.out.2.2.1, HSub.out⟩
        case measure => simp [intOf]; omega
    · obtain rfl : q = n.l.length := by omega
      have hsh : zs1.map (·.x) = save (shut (f + 1) M (n.l.drop m)) := by
        have : (n.l.drop m).take (n.l.length - m) = n.l.drop m := List.take_of_length_le (by simp)
        rw [this] at hs
        rw [shut_fold]; exact hs
      obtain ⟨y, hy, hyx⟩ := sz_at hsh H.out.2.2.2.2
      have hyz : y = z := by
        rcases HSub.out k y hy with h1 | h1
        · rw [HZ.out.2.2.1] at h1; injection h1 with h1; exact h1.symm
        · rw [h1] at hyx
          have : shutZ.x.cl = (saveNode (some n)).cl := by rw [hyx]
          simp [shutZ, saveNode] at this
      subst hyz
      obtain ⟨_, _, _, p3, _, p5⟩ := hC.cell hy
      rw [HZ.out.2.2.2.2.1] at p3
      replace p5 := p5 (k * 5 + 3)
      obtain ⟨cur2, hcut⟩ := hC.cut hy m (by rw [HZ.out.2.2.2.2.1]; exact hm)
      rw [HZA.out.1, HZA.out.2] at p3 hcut
      have hbr := (hgr.block _ (show w5.heap.size < W7.heap.size by omega) hbg).trans HZ.out.2.2.2.2.2.2.1
      have hrr := (hgr.block _ (show w.heap.size + 1 < W7.heap.size by omega) hrg).trans HZ.out.2.2.2.2.2.2.2.1
      have hlz1 : zs1.length = M.length := by have := congrArg List.length hsh; rw [List.length_map, save_length, shut_length] at this; exact this
      have HF := Lib.hid (And.intro hgr (And.intro hcut (And.intro hsh (And.intro hbr (And.intro hrr (And.intro hyx hlz1))))))
      clear hgr hC hs hy hyx hsh hcut hbr hrr hlz1
      go_upto_region 12 with (fail)
      go_cut [63] from 58 to 65 (fun _ wx => RewS (fun b => w1.heap.size ≤ b ∧ b ≠ w5.heap.size) w w5.heap.size g' cap' M.length (zs1.set k (cutZ y m)) wx)
      case first =>
        go_region
        all_goals
          go_wp2_with (fail)
          go_meet
          have hb1 : Below w.heap.size w wr := by
            have h1 := HZ.out.2.2.2.2.2.2.2.2.1
            refine h1.trans ⟨HF.out.1.os, HF.out.1.tape, HF.out.1.output, HF.out.1.size, fun b hb => HF.out.1.block b (by have := h1.size; omega) (by omega)⟩
          have hlo : w.heap.size ≤ g' := by omega
          refine ⟨⟨cur2, HF.out.2.1.keep fun b hb _ => ⟨rfl, hb⟩⟩, (setCell_far wr ⟨g', k * 5 + 3, none⟩ _ _ hrg).trans HF.out.2.2.2.2.1, (setCell_far wr ⟨g', k * 5 + 3, none⟩ _ _ hbg).trans HF.out.2.2.2.1, ?_⟩
          first
            | exact hb1.setCell (p := ⟨g', k * 5 + 3, none⟩) hlo _
            | exact (hb1.setCell (p := ⟨g', k * 5 + 3, none⟩) hlo _).drew
            | exact hb1.drew.setCell (p := ⟨g', k * 5 + 3, none⟩) hlo _
      case rest =>
        obtain ⟨⟨cur3, hC8⟩, hre8, hbox8, hB8⟩ := hcut
        obtain ⟨t8, _⟩ := one_cell hbox8
        obtain ⟨s8, sf8⟩ := one_cell hre8
        have hmap8 : (zs1.set k (cutZ y m)).map (·.x) = save ((shut (f + 1) M (n.l.drop m)).set k (some { n with l := n.l.take m })) := by
          rw [List.map_set, HF.out.2.2.1]
          have : (cutZ y m).x = saveNode (some { n with l := n.l.take m }) := by
            unfold cutZ
            rw [HF.out.2.2.2.2.2.1]
            rfl
          rw [this]
          simp [save, List.map_set]
        have hsl : ((shut (f + 1) M (n.l.drop m)).set k (some { n with l := n.l.take m })).length = M.length := by rw [List.length_set, shut_length]
        have hk8 : ((shut (f + 1) M (n.l.drop m)).set k (some { n with l := n.l.take m }))[k]? = some (some { n with l := n.l.take m }) := List.getElem?_set_self (by rw [shut_length]; exact hkl)
        have HT := Lib.hid (tidyR_ok _ g' cap' _ (zs1.set k (cutZ y m)) cur3 wc k _ hC8 hmap8 (by rw [hsl]; exact hm64) hk8 (by show (n.l.take m).length ≤ 200; rw [List.length_take]; omega))
        rw [hsl] at HT
        have hMM : trim (((shut (f + 1) M (n.l.drop m)).set k (some { n with l := n.l.take m })).set k (some { n with l := tidy (n.l.take m) })) = (trim (shut (f + 1) M (n.l.drop m))).set k (some { n with l := tidy (n.l.take m) }) := by
          rw [List.set_set, trim_set H.out.2.2.2.2]
        have HM := Lib.hid hMM
        have HC8 := Lib.hid (And.intro hC8 (And.intro hre8 (And.intro hbox8 hB8)))
        clear hC8 hre8 hbox8 hB8 hmap8 hsl hk8 hMM r1 p3 p5
        go_wp2_with (go_at_call 61; fail)
        refine HT.out.mono ?_
        rintro e w9 ⟨cur9, zs9, rfl, hg9, hC9, hmap9⟩
        have hg9s := hg9.size
        have hre9 := (hg9.block _ (lt_of_heap HC8.out.2.1) hrg).trans HC8.out.2.1
        obtain ⟨q1, q2⟩ := one_cell hre9
        have h11 := setCell_at _ _ 0 _ _ (.slice (some ⟨g', 0, none⟩) zs9.length cap') hre9
        obtain ⟨q0, _⟩ := one_cell h11
        have hm9 : zs9.map (·.x) = save ((trim (shut (f + 1) M (n.l.drop m))).set k (some { n with l := tidy (n.l.take m) })) := hmap9.trans (congrArg save HM.out)
        have hl9 : ((trim (shut (f + 1) M (n.l.drop m))).set k (some { n with l := tidy (n.l.take m) })).length = zs9.length := by
          have := congrArg List.length hm9
          rw [List.length_map, save_length] at this
          exact this.symm
        have hB9 : Below w.heap.size w w9 := HC8.out.2.2.2.trans ⟨hg9.os, hg9.tape, hg9.output, hg9.size, fun b hb => hg9.block b (by have := HC8.out.2.2.2.size; omega) (by omega)⟩
        have H9 := Lib.hid (And.intro hC9 (And.intro hm9 (And.intro hl9 hB9)))
        clear hg9 hre9 h11 hC9 hmap9 hm9 hl9 hB9
        go_wp2
        refine bodyPost_ret (v := .tuple #[.agg #[.slice (some ⟨g', 0, none⟩) zs9.length cap'], .int .i64 0]) (by simp [results, Try.results46, go_sem, q0]) rfl ⟨⟨g', cap', cur9, zs9, by rw [H9.out.2.2.1], ?_, H9.out.2.1⟩, ?_⟩
        · exact H9.out.1.keep fun b hb _ => ⟨setCell_far w9 ⟨w.heap.size + 1, 0, none⟩ _ b (by show b ≠ w.heap.size + 1; omega), .inr (by omega)⟩
        · exact H9.out.2.2.2.setCell (p := ⟨w.heap.size + 1, 0, none⟩) (by show w.heap.size ≤ w.heap.size + 1; omega) _

set_option maxHeartbeats 2000000 in
theorem rewindR_none (K : Nat → Prop) (w : World) (g cap : Nat) (cur : Array Value) (zs : List SZ) (M : Tr) (i m : Int) (hC : Cop K w g cap cur zs) (hs : zs.map (·.x) = save M) (hf : find M i = none) :
    Calls Try.prog 46 #[.agg #[.slice (some ⟨g, 0, none⟩) M.length cap], .int .i64 i, .int .i64 m] w fun e w' => RefOut K w M (fun v => e = .returned (.tuple #[v, .int .i64 4])) w' ∧ Below w.heap.size w w' := by
  have hsz := aW_size w (some ⟨g, 0, none⟩) cap M
  have hbx := aW_box w (some ⟨g, 0, none⟩) cap M
  have hre := aW_res w (some ⟨g, 0, none⟩) cap M
  have hcl := lt_of_heap hC.row
  have HOn := Lib.hid (open_no K _ (some ⟨g, 0, none⟩) cap M i ((hC.below (aW_below w (some ⟨g, 0, none⟩) cap M)).stK hs) hf)
  have HB := Lib.hid (aW_below w (some ⟨g, 0, none⟩) cap M)
  have H := Lib.hid (And.intro hC hs)
  clear hC hs hf
  go_enter Try.func46, Try.ntmps46
  go_wp2_with (go_at_call 52; fail)
  have haW : (w.alloc (.cells #[.slice (some ⟨g, 0, none⟩) M.length cap] 28)).alloc (.cells #[.slice none 0 0] 28) = aW w (some ⟨g, 0, none⟩) cap M := rfl
  rw [haW]
  generalize aW w (some ⟨g, 0, none⟩) cap M = W2 at *
  clear haW
  refine HOn.out.mono ?_
  rintro e w1 ⟨rfl, hb1⟩
  have hbs := hb1.size
  replace hbx := (hb1.block _ (show w.heap.size < W2.heap.size by omega)).trans hbx
  replace hre := (hb1.block _ (show w.heap.size + 1 < W2.heap.size by omega)).trans hre
  obtain ⟨x0, x1⟩ := one_cell hbx
  obtain ⟨y0, y1⟩ := one_cell hre
  have HR := Lib.hid (And.intro hb1 (And.intro hbx hre))
  clear hb1 hbx hre
  go_wp2
  have h9 := setCell_at _ _ 0 _ _ (.slice (some ⟨g, 0, none⟩) M.length cap) HR.out.2.2
  obtain ⟨q0, _⟩ := one_cell h9
  have hb9 : Below w.heap.size w (w1.setCell ⟨w.heap.size + 1, 0, none⟩ (.slice (some ⟨g, 0, none⟩) M.length cap)) :=
    (HB.out.trans (HR.out.1.mono HB.out.size)).setCell (by show w.heap.size ≤ w.heap.size + 1; omega) _
  refine bodyPost_ret (v := .tuple #[.agg #[.slice (some ⟨g, 0, none⟩) M.length cap], .int .i64 4]) (by simp [results, Try.results46, go_sem, q0]) rfl ⟨⟨g, cap, cur, zs, rfl, ?_, H.out.2⟩, hb9⟩
  exact H.out.1.keep fun b hb hl => ⟨hb9.block b hl, .inl hb⟩

set_option maxHeartbeats 2000000 in
theorem rewindR_range (K : Nat → Prop) (w : World) (g cap : Nat) (cur : Array Value) (zs : List SZ) (M : Tr) (k : Nat) (m : Int) (n : Node) (hC : Cop K w g cap cur zs) (hs : zs.map (·.x) = save M) (hg : Good M) (hi : M[k]? = some (some n)) (hm : m < 0 ∨ n.l.length < m) :
    Calls Try.prog 46 #[.agg #[.slice (some ⟨g, 0, none⟩) M.length cap], .int .i64 k, .int .i64 m] w fun e w' => RefOut K w M (fun v => e = .returned (.tuple #[v, .int .i64 7])) w' ∧ Below w.heap.size w w' := by
  have hkl := (List.getElem?_eq_some_iff.1 hi).1
  have hn200 := (hg.node _ _ hi).len
  have hsz := aW_size w (some ⟨g, 0, none⟩) cap M
  have hbx := aW_box w (some ⟨g, 0, none⟩) cap M
  have hre := aW_res w (some ⟨g, 0, none⟩) cap M
  have hcl := lt_of_heap hC.row
  have hm64 := hg.len
  have hzl : zs.length = M.length := by have := congrArg List.length hs; rw [List.length_map, save_length] at this; exact this
  have hC2 := hC.below (aW_below w (some ⟨g, 0, none⟩) cap M)
  obtain ⟨z0, hz0, hzx0⟩ := sz_at hs hi
  obtain ⟨_, _, _, c3, _, _⟩ := hC2.cell hz0
  have hzl0 : z0.x.l = n.l := by rw [hzx0]; rfl
  obtain ⟨hr01, hr02⟩ := row_len (RowK.of_row (K := fun _ => True) (hC2.rows k z0 hz0) fun _ _ => trivial)
  rw [hzl0] at c3 hr01
  have hcap0 := hC.len
  have hcap1 := hC.most
  unfold maxLen at hcap1
  rw [hzl] at hcap0
  have hgl2 := lt_of_heap hC2.row
  have HOy := Lib.hid (open_yes K _ (some ⟨g, 0, none⟩) cap M k n (hC2.stK hs) (by rw [find, if_neg (by omega), Int.toNat_natCast, hi]; rfl))
  have HB := Lib.hid (aW_below w (some ⟨g, 0, none⟩) cap M)
  have H := Lib.hid (And.intro hC hs)
  clear hC hC2 hs hg hi hzl hz0 hzx0 hzl0
  generalize z0.A = A0 at *
  generalize z0.c = c0 at *
  have hm2 : m < 0 ∨ (0 ≤ m ∧ (n.l.length : Int) < m) := by omega
  clear hm
  rcases hm2 with hm1 | ⟨hm1, hm2⟩
  all_goals
    go_enter Try.func46, Try.ntmps46
    go_wp2_with (go_at_call 52; fail)
    have haW : (w.alloc (.cells #[.slice (some ⟨g, 0, none⟩) M.length cap] 28)).alloc (.cells #[.slice none 0 0] 28) = aW w (some ⟨g, 0, none⟩) cap M := rfl
    rw [haW]
    generalize aW w (some ⟨g, 0, none⟩) cap M = W2 at *
    clear haW
    refine HOy.out.mono ?_
    rintro e w1 ⟨rfl, hb1⟩
    have hbs := hb1.size
    have hbx1 := (hb1.block _ (show w.heap.size < W2.heap.size by omega)).trans hbx
    have hre1 := (hb1.block _ (show w.heap.size + 1 < W2.heap.size by omega)).trans hre
    obtain ⟨x0, x1⟩ := one_cell hbx1
    obtain ⟨y0, y1⟩ := one_cell hre1
    replace c3 := (hb1.cell (p := ⟨g, _, none⟩) hgl2).trans c3
    have HR := Lib.hid (And.intro hb1 (And.intro hbx1 hre1))
    clear hb1 hbx1 hre1 hbx hre
    go_wp2
    have h9 := setCell_at _ _ 0 _ _ (.slice (some ⟨g, 0, none⟩) M.length cap) HR.out.2.2
    obtain ⟨q0, _⟩ := one_cell h9
    have hb9 : Below w.heap.size w (w1.setCell ⟨w.heap.size + 1, 0, none⟩ (.slice (some ⟨g, 0, none⟩) M.length cap)) :=
      (HB.out.trans (HR.out.1.mono HB.out.size)).setCell (by show w.heap.size ≤ w.heap.size + 1; omega) _
    refine bodyPost_ret (v := .tuple #[.agg #[.slice (some ⟨g, 0, none⟩) M.length cap], .int .i64 7]) (by simp [results, Try.results46, go_sem, q0]) rfl ⟨⟨g, cap, cur, zs, rfl, ?_, H.out.2⟩, hb9⟩
    exact H.out.1.keep fun b hb hl => ⟨hb9.block b hl, .inl hb⟩

theorem rewindR_ok (K : Nat → Prop) (w : World) (g cap : Nat) (cur : Array Value) (zs : List SZ) (M : Tr) (i m : Int) (F : Nat) (hC : Cop K w g cap cur zs) (hs : zs.map (·.x) = save M) (hg : Good M) (hF : Big M F) :
    Calls Try.prog 46 #[.agg #[.slice (some ⟨g, 0, none⟩) M.length cap], .int .i64 i, .int .i64 m] w fun e w' => RefOut K w (rewindTo M F i m).1 (fun v => e = .returned (.tuple #[v, .int .i64 (rewindTo M F i m).2])) w' ∧ Below w.heap.size w w' := by
  unfold rewindTo
  cases hf : find M i with
  | none => exact rewindR_none K w g cap cur zs M i m hC hs hf
  | some n =>
    dsimp only
    obtain ⟨h0, hi⟩ := find_some hf
    obtain ⟨k, rfl⟩ := Int.eq_ofNat_of_zero_le h0
    rw [Int.toNat_natCast] at hi ⊢
    by_cases hm : m < 0 ∨ n.l.length < m
    · rw [if_pos hm]
      exact rewindR_range K w g cap cur zs M k m n hC hs hg hi hm
    · rw [if_neg hm]
      obtain ⟨m, rfl⟩ := Int.eq_ofNat_of_zero_le (show 0 ≤ m by omega)
      rw [Int.toNat_natCast]
      obtain ⟨d, D, hr, hD⟩ := hF
      obtain ⟨f, rfl⟩ : ∃ f, F = f + 1 := ⟨F - 1, by omega⟩
      obtain ⟨s1, s2, s3⟩ := shut_good hg hr hi (List.drop_sublist m n.l) (F := f + 1) (by omega)
      have hgi := not_gone hg hr hi (List.drop_sublist m n.l)
      exact rewindR_yes K w g cap cur zs M k m f n hC hs hg hi (by omega) s1 ((s3 k hgi).trans hi)
end Ne
end Go.Proofs.Ytllmddhahpegmaa
namespace Go.Proofs.Ytllmddhahpegmaa
open Go.RowKit
namespace Ne

def holeZ (z : SZ) (l : List Item) : SZ := ⟨{ z.x with l := l }, z.A, z.c⟩

theorem row_form {w : World} {z : SZ} (h : w.ownsRow 0 54 3 z.val z.x.l.length (icells z.x.l)) {j : Nat} {x : Item} (hj : z.x.l[j]? = some x) : ∃ g, z.A = some ⟨g, 0, none⟩ ∧ z.blk = some g ∧ g < w.heap.size ∧ ∀ o, w.frozen? ⟨g, o, none⟩ = false := by
  have hl := (List.getElem?_eq_some_iff.1 hj).1
  rcases h.2 with ⟨_, h2⟩ | ⟨g1, cap1, cur1, e1, _, hg1, _⟩
  · omega
  · have hA : z.A = some ⟨g1, 0, none⟩ := by unfold SZ.val at e1; injection e1
    exact ⟨g1, hA, by unfold SZ.blk SZ.val; rw [hA]; rfl, lt_of_heap hg1, fun o => by simp [World.frozen?, hg1]⟩

/-- An item becomes a hole. -/
theorem Cop.holeAt {K : Nat → Prop} {w : World} {g cap : Nat} {cur : Array Value} {zs : List SZ} (h : Cop K w g cap cur zs) {p j gz : Nat} {z : SZ} {x : Item} (hz : zs[p]? = some z) (hj : z.x.l[j]? = some x) (hA : z.A = some ⟨gz, 0, none⟩) :
    Cop K (w.setCell ⟨gz, j * 3 + 2, none⟩ (.int .i64 (-2))) g cap cur (zs.set p (holeZ z (z.x.l.set j (asHole x)))) := by
  have hp := (List.getElem?_eq_some_iff.1 hz).1
  have hzb : z.blk = some gz := by unfold SZ.blk SZ.val; rw [hA]; rfl
  have hgz : gz ≠ g := h.not_row hz hzb
  obtain ⟨k0, k1, k2, k3, k4⟩ := h.cells p z hz
  have hval : (holeZ z (z.x.l.set j (asHole x))).val = z.val := by unfold holeZ SZ.val; simp
  have hblk : (holeZ z (z.x.l.set j (asHole x))).blk = z.blk := by unfold SZ.blk; rw [hval]
  refine h.put hp (by rw [setCell_far _ _ _ _ (by show g ≠ gz; exact fun e => hgz e.symm)]; exact h.row) rfl (fun _ _ => rfl) ⟨k0, k1, k2, by rw [hval]; exact k3, k4⟩ ?_ (fun b hb => ?_) (fun i y hne hi b hb => ?_) fun i y b hne hi hb => ?_
  · have hr := h.rows p z hz
    unfold SZ.val at hr
    rw [hA] at hr
    have := row_set hr hj
    rw [hval]
    unfold SZ.val
    rw [hA]
    exact this
  · rw [hblk] at hb; exact h.own p z b hz hb
  · rw [hblk] at hb; exact h.apart p i z y (fun e => hne e.symm) hz hi b hb
  · exact setCell_far _ _ _ _ (by
      show b ≠ gz
      intro e
      subst e
      exact h.apart i p y z hne hi hz b hb hzb)

/-- The items behind some rounds. -/
def holed (l : List Item) (j : Nat) (x : Item) (t : Nat) : List Item := if j < t then l.set j (asHole x) else l
theorem holed_length (l : List Item) (j : Nat) (x : Item) (t : Nat) : (holed l j x t).length = l.length := by
  unfold holed; split <;> simp
theorem holed_get (l : List Item) (j : Nat) (x : Item) (t : Nat) : (holed l j x t)[t]? = l[t]? := by
  unfold holed
  split
  · rw [List.getElem?_set_ne (by omega)]
  · rfl
theorem holed_next (l : List Item) (j : Nat) (x : Item) (t : Nat) (h : t ≠ j) : holed l j x (t + 1) = holed l j x t := by
  unfold holed
  by_cases e : j < t
  · rw [if_pos e, if_pos (by omega)]
  · rw [if_neg e, if_neg (by omega)]

/-- Only one block is written. -/
structure OnlyB (b : Option Nat) (w w' : World) : Prop where
  os : w'.os = w.os
  tape : w'.tape = w.tape
  output : w'.output = w.output
  size : w'.heap.size = w.heap.size
  block : ∀ k, b ≠ some k → w'.heap[k]? = w.heap[k]?

set_option maxRecDepth 100000 in
set_option maxHeartbeats 4000000 in
theorem stopR_yes (K : Nat → Prop) (w : World) (g cap : Nat) (cur : Array Value) (zs : List SZ) (M : Tr) (i p j f : Nat) (n q : Node) (x : Item) (hC : Cop K w g cap cur zs) (hs : zs.map (·.x) = save M) (hg : Good M) (hi : M[i]? = some (some n)) (hi0 : i ≠ 0) (hnp : n.p = (p : Int))
    (hq : M[p]? = some (some q)) (hx : q.l[j]? = some x) (hxc : x.c = (i : Int)) (huq : ∀ (t : Nat) (y : Item), q.l[t]? = some y → y.c = (i : Int) → t = j) (hS : ShutOk f M n.l) (hopen : ((shut f M n.l).set i none)[p]? = some (some q)) :
    Calls Try.prog 47 #[.agg #[.slice (some ⟨g, 0, none⟩) M.length cap], .int .i64 i] w fun e w' => RefOut K w ((trim ((shut f M n.l).set i none)).set p (some { q with l := tidy (q.l.set j (asHole x)) })) (fun v => e = .returned (.tuple #[v, .int .i64 0])) w' ∧ Below w.heap.size w w' := by
  have hil := (List.getElem?_eq_some_iff.1 hi).1
  have hpl := (List.getElem?_eq_some_iff.1 hq).1
  have hjl := (List.getElem?_eq_some_iff.1 hx).1
  have hn200 := (hg.node _ _ hi).len
  have hq200 := (hg.node _ _ hq).len
  have hsz := aW_size w (some ⟨g, 0, none⟩) cap M
  have hbx := aW_box w (some ⟨g, 0, none⟩) cap M
  have hre := aW_res w (some ⟨g, 0, none⟩) cap M
  have hcl := lt_of_heap hC.row
  have hm64 := hg.len
  have hzl : zs.length = M.length := by have := congrArg List.length hs; rw [List.length_map, save_length] at this; exact this
  have hC2 := hC.below (aW_below w (some ⟨g, 0, none⟩) cap M)
  have HOy := Lib.hid (open_yes K _ (some ⟨g, 0, none⟩) cap M i n (hC2.stK hs) (by rw [find, if_neg (by omega), Int.toNat_natCast, hi]; rfl))
  have HCp := Lib.hid (fun w2 (hb : Below (aW w (some ⟨g, 0, none⟩) cap M).heap.size (aW w (some ⟨g, 0, none⟩) cap M) w2) => copy_ok K w2 g cap cur zs (hC2.below hb) (by rw [hzl]; exact hg.pos) (by rw [hzl]; exact hg.len) (fun j y hy => by
    have h1 : (save M)[j]? = some y.x := by rw [← hs, List.getElem?_map, hy]; rfl
    rw [save, List.getElem?_map] at h1
    cases e : M[j]? with
    | none => rw [e] at h1; cases h1
    | some o =>
      rw [e] at h1
      injection h1 with h1
      rw [← h1]
      cases o with
      | none => exact Nat.zero_le _
      | some q => exact (hg.node j q e).len))
  rw [hzl] at HCp
  have HB := Lib.hid (aW_below w (some ⟨g, 0, none⟩) cap M)
  have H := Lib.hid (And.intro hs (And.intro hi (And.intro hzl (And.intro hS (And.intro hopen (And.intro hx (And.intro hxc (And.intro huq hnp))))))))
  have hi0' : ((i : Int) == 0) = false := by rw [beq_eq_false_iff_ne]; omega
  clear hC hC2 hs hg hi hzl hS hopen hx hxc huq hq hnp hi0
  go_enter Try.func47, Try.ntmps47
  go_wp2_with (go_at_call 52; fail)
  have haW : (w.alloc (.cells #[.slice (some ⟨g, 0, none⟩) M.length cap] 28)).alloc (.cells #[.slice none 0 0] 28) = aW w (some ⟨g, 0, none⟩) cap M := rfl
  rw [haW]
  generalize aW w (some ⟨g, 0, none⟩) cap M = W2 at *
  clear haW
  refine HOy.out.mono ?_
  rintro e w1 ⟨rfl, hb1⟩
  have hbs := hb1.size
  have hbx1 := (hb1.block _ (show w.heap.size < W2.heap.size by omega)).trans hbx
  have hre1 := (hb1.block _ (show w.heap.size + 1 < W2.heap.size by omega)).trans hre
  obtain ⟨x0, x1⟩ := one_cell hbx1
  have HC5 := Lib.hid (HCp.out w1 hb1)
  have H1 := Lib.hid (And.intro hb1 (And.intro hbx1 hre1))
  clear hb1 hbx1 hre1 hbx hre
  go_wp2_with (go_at_call 59; fail)
  refine HC5.out.mono ?_
  rintro e w5 ⟨⟨g', cap', cur', zs', rfl, hC5, hs5⟩, hb5⟩
  have hb5s := hb5.size
  have hre5 := (hb5.block _ (show w.heap.size + 1 < w1.heap.size by omega)).trans H1.out.2.2
  have hlz : zs'.length = M.length := by have := congrArg List.length hs5; rw [List.length_map, List.length_map, H.out.2.2.1] at this; exact this
  have hgt := lt_of_heap hC5.row
  have hglo : w1.heap.size ≤ g' := hC5.low
  have hC6 : Cop (fun b => w1.heap.size ≤ b ∧ b ≠ w5.heap.size) w5 g' cap' cur' zs' :=
    ⟨⟨hglo, by omega⟩, hC5.row, hC5.size, hC5.len, hC5.most, hC5.cells, hC5.rows, fun i z b hz hb => ⟨hC5.own i z b hz hb, by have := ((hC5.rows i z hz).lt b hb).2; omega⟩, hC5.apart⟩
  obtain ⟨z, hz, hzx⟩ := sz_at (hs5.trans H.out.1) H.out.2.1
  have hbn := below_box w5 (.cells #[.slice (some ⟨g', 0, none⟩) M.length cap'] 28)
  have hC7 := hC6.below hbn
  have hbox7 := heap_alloc_new w5 (.cells #[.slice (some ⟨g', 0, none⟩) M.length cap'] 28)
  have hre7 := (hbn.block _ (lt_of_heap hre5)).trans hre5
  have hB7 : Below w.heap.size w (w5.alloc (.cells #[.slice (some ⟨g', 0, none⟩) M.length cap'] 28)) := by
    have h1 := HB.out
    have h2 := H1.out.1
    have a1 := h1.size
    have a2 := h2.size
    exact h1.trans ((h2.trans ((hb5.trans (hbn.mono hb5s)).mono a2)).mono a1)
  have hs7 : (w5.alloc (.cells #[.slice (some ⟨g', 0, none⟩) M.length cap'] 28)).heap.size = w5.heap.size + 1 := by simp
  obtain ⟨d0, _, _, _, _, _⟩ := hC7.cell hz
  rw [hzx] at d0
  replace d0 : (w5.alloc (.cells #[.slice (some ⟨g', 0, none⟩) M.length cap'] 28)).cell? ⟨g', i * 5, none⟩ = some (.int .i64 (p : Int)) := by rw [← H.out.2.2.2.2.2.2.2.2]; exact d0
  obtain ⟨t0, _⟩ := one_cell hbox7
  have hln := hC7.len
  have hcm := hC7.most
  unfold maxLen at hcm
  rw [hlz] at hln
  have HSh := Lib.hid (shutR_sub _ g' cap' f M zs' cur' _ i n hC7 (hs5.trans H.out.1) hm64 H.out.2.1 hn200 H.out.2.2.2.1)
  have HZ := Lib.hid (And.intro hbox7 (And.intro hre7 hB7))
  clear hC5 hC6 hC7 hs5 hb5 hz hzx hre5 hre7 hbox7 hB7 hbn hlz x0 x1
  go_wp2_with (go_at_call 60; fail)
  generalize (w5.alloc (.cells #[.slice (some ⟨g', 0, none⟩) M.length cap'] 28)) = W7 at *
  have hgl7 : g' < W7.heap.size := by omega
  have hbg : w5.heap.size ≠ g' := by omega
  have hrg : w.heap.size + 1 ≠ g' := by omega
  refine HSh.out.mono ?_
  rintro e w8 ⟨rfl, hg8, cur8, zs8, hC8, hs8, -⟩
  have hg8s := hg8.size
  have hbox8 := (hg8.block _ (show w5.heap.size < W7.heap.size by omega) hbg).trans HZ.out.1
  have hre8 := (hg8.block _ (show w.heap.size + 1 < W7.heap.size by omega) hrg).trans HZ.out.2.1
  have hB8 : Below w.heap.size w w8 := by
    have h1 := HZ.out.2.2
    exact h1.trans ⟨hg8.os, hg8.tape, hg8.output, hg8.size, fun b hb => hg8.block b (by have := h1.size; omega) (by omega)⟩
  obtain ⟨z, hz, hzx⟩ := sz_at hs8 H.out.2.2.2.2.1
  obtain ⟨_, _, _, e3, _, _⟩ := hC8.cell hz
  have hzl2 : z.x.l = q.l := by rw [hzx]; rfl
  obtain ⟨gz, hAz, hzb, hgz, _⟩ := row_form (hC8.rows p z hz) (by rw [hzl2]; exact H.out.2.2.2.2.2.1)
  have hgzg : gz ≠ g' := hC8.not_row hz hzb
  have hgzK : w1.heap.size ≤ gz ∧ gz ≠ w5.heap.size := hC8.own p z gz hz hzb
  obtain ⟨hr1, hr2⟩ := row_len (RowK.of_row (K := fun _ => True) (hC8.rows p z hz) fun _ _ => trivial)
  rw [hzl2] at e3 hr1
  obtain ⟨t8, _⟩ := one_cell hbox8
  have hlz8 : zs8.length = M.length := by have := congrArg List.length hs8; rw [List.length_map, save_length, List.length_set, shut_length] at this; exact this
  rw [hAz] at e3
  have H8 := Lib.hid (And.intro hC8 (And.intro hs8 (And.intro hz (And.intro hzx (And.intro hzl2 (And.intro hAz (And.intro hzb (And.intro hbox8 (And.intro hre8 (And.intro hB8 hlz8))))))))))
  clear hg8 hC8 hs8 hz hzx hAz hzb hbox8 hre8 hB8 hlz8 hzl2 t0 d0
  generalize hzc : z.c = c at *
  have HZC := Lib.hid hzc
  clear hzc
  go_wp2_with fail
  have hzgl : gz < w8.heap.size := by omega
  go_loopw [9] (fun i9 wr => ∃ t : Nat, t ≤ q.l.length ∧ i9 = .int .i64 t ∧ OnlyB (some gz) w8 wr ∧ Cop (fun b => w1.heap.size ≤ b ∧ b ≠ w5.heap.size) wr g' cap' cur8 (zs8.set p (holeZ z (holed q.l j x t)))) (fun i9 _ => q.l.length - (intOf i9).toNat)
  case atStart =>
    refine ⟨0, Nat.zero_le _, rfl, ⟨rfl, rfl, rfl, rfl, fun _ _ => rfl⟩, ?_⟩
    have e1 : holeZ z (holed q.l j x 0) = z := by
      have : holed q.l j x 0 = z.x.l := by unfold holed; rw [if_neg (by omega), H8.out.2.2.2.2.1]
      rw [this]; rfl
    have e2 : zs8.set p z = zs8 := by
      obtain ⟨h1, h2⟩ := List.getElem?_eq_some_iff.1 H8.out.2.2.1
      rw [← h2]
      exact List.set_getElem_self h1
    rw [e1, e2]
    exact H8.out.1
  case round =>
    obtain ⟨t, ht, rfl, ho, hC⟩ := hrel
    have hos := ho.size
    by_cases hlt : t < q.l.length
    · obtain ⟨y, hy⟩ : ∃ y, q.l[t]? = some y := ⟨_, List.getElem?_eq_getElem hlt⟩
      have hz2 : (zs8.set p (holeZ z (holed q.l j x t)))[p]? = some (holeZ z (holed q.l j x t)) := List.getElem?_set_self (by rw [H8.out.2.2.2.2.2.2.2.2.2.2]; exact hpl)
      have hyl : (holeZ z (holed q.l j x t)).x.l[t]? = some y := by
        show (holed q.l j x t)[t]? = some y
        rw [holed_get]; exact hy
      have hyA : (holeZ z (holed q.l j x t)).A = some ⟨gz, 0, none⟩ := H8.out.2.2.2.2.2.1
      obtain ⟨g1, f1, hA1, _, _, _, _, k3⟩ := row_at' (z := holeZ z (holed q.l j x t)) (hC.rows p _ hz2) hyl
      rw [hyA] at hA1
      injection hA1 with hA1
      injection hA1 with hA1 hA2
      subst hA1 hA2
      rw [Nat.zero_add] at k3
      obtain ⟨_, _, _, _, kf⟩ := row_form (hC.rows p _ hz2) hyl
      have hgf : wr.frozen? ⟨gz, t * 3 + 2, none⟩ = false := by
        rename_i ha hb hc
        rw [hyA] at ha
        injection ha with ha
        injection ha with ha
        subst ha
        exact kf _
      by_cases htj : t = j
      · subst htj
        have hyx : y = x := by rw [H.out.2.2.2.2.2.1] at hy; injection hy with hy; exact hy.symm
        subst hyx
        have hC3 := hC.holeAt hz2 hyl hyA
        have hnext : (zs8.set p (holeZ z (holed q.l t y t))).set p (holeZ (holeZ z (holed q.l t y t)) ((holeZ z (holed q.l t y t)).x.l.set t (asHole y))) = zs8.set p (holeZ z (holed q.l t y (t + 1))) := by
          rw [List.set_set]
          have : holed q.l t y (t + 1) = (holed q.l t y t).set t (asHole y) := by
            unfold holed; rw [if_pos (by omega), if_neg (by omega)]
          rw [this]; rfl
        rw [hnext] at hC3
        rw [H.out.2.2.2.2.2.2.1] at k3
        have HR := Lib.hid (And.intro ho hC3)
        clear ho hC hC3 hz2 hyl hyA kf hnext hy
        go_wp2
        go_roundw
        case rel => exact ⟨t + 1, by omega, by go_num, ⟨HR.out.1.os, HR.out.1.tape, HR.out.1.output, by rw [setCell_size]; exact HR.out.1.size, fun b hb => by rw [setCell_far _ _ _ _ (by show b ≠ gz; exact fun e => hb (by rw [e]))]; exact HR.out.1.block b hb⟩, HR.out.2⟩
        case measure => simp [intOf]; omega
      · have hyc : (y.c == (i : Int)) = false := by rw [beq_eq_false_iff_ne]; exact fun e => htj (H.out.2.2.2.2.2.2.2.1 t y hy e)
        have hnext := holed_next q.l j x t htj
        have HR := Lib.hid (And.intro ho (And.intro hC hnext))
        clear ho hC hz2 hyl hyA kf hnext hy
        go_wp2
        go_roundw
        case rel => exact ⟨t + 1, by omega, by go_num, HR.out.1, by rw [HR.out.2.2]; exact HR.out.2.1⟩
        case measure => simp [intOf]; omega
    · obtain rfl : t = q.l.length := by omega
      have hfin : holed q.l j x q.l.length = q.l.set j (asHole x) := by unfold holed; rw [if_pos hjl]
      rw [hfin] at hC
      have hbox9 := (ho.block w5.heap.size (by intro e; injection e with e; exact hgzK.2 e)).trans H8.out.2.2.2.2.2.2.2.1
      have hre9 := (ho.block (w.heap.size + 1) (by intro e; injection e with e; omega)).trans H8.out.2.2.2.2.2.2.2.2.1
      have hB9 : Below w.heap.size w wr := H8.out.2.2.2.2.2.2.2.2.2.1.trans ⟨ho.os, ho.tape, ho.output, by rw [ho.size]; exact Nat.le_refl _, fun b hb => ho.block b (by intro e; injection e with e; omega)⟩
      obtain ⟨t9, _⟩ := one_cell hbox9
      have hmap9 : (zs8.set p (holeZ z (q.l.set j (asHole x)))).map (·.x) = save (((shut f M n.l).set i none).set p (some { q with l := q.l.set j (asHole x) })) := by
        rw [List.map_set, H8.out.2.1]
        have : (holeZ z (q.l.set j (asHole x))).x = saveNode (some { q with l := q.l.set j (asHole x) }) := by
          unfold holeZ
          rw [H8.out.2.2.2.1]
          rfl
        rw [this]
        simp [save, List.map_set]
      have hsl : (((shut f M n.l).set i none).set p (some { q with l := q.l.set j (asHole x) })).length = M.length := by rw [List.length_set, List.length_set, shut_length]
      have hk9 : (((shut f M n.l).set i none).set p (some { q with l := q.l.set j (asHole x) }))[p]? = some (some { q with l := q.l.set j (asHole x) }) := List.getElem?_set_self (by rw [List.length_set, shut_length]; exact hpl)
      have HT := Lib.hid (tidyR_ok _ g' cap' _ _ _ wr p _ hC hmap9 (by rw [hsl]; exact hm64) hk9 (by show (q.l.set j (asHole x)).length ≤ 200; rw [List.length_set]; exact hq200))
      rw [hsl] at HT
      have hMM : trim ((((shut f M n.l).set i none).set p (some { q with l := q.l.set j (asHole x) })).set p (some { q with l := tidy (q.l.set j (asHole x)) })) = (trim ((shut f M n.l).set i none)).set p (some { q with l := tidy (q.l.set j (asHole x)) }) := by
        rw [List.set_set, trim_set H.out.2.2.2.2.1]
      have HM := Lib.hid hMM
      have HC8 := Lib.hid (And.intro hre9 hB9)
      have hrl := lt_of_heap hre9
      clear ho hC hfin hbox9 hre9 hB9 hmap9 hsl hk9 hMM
      go_wp2_with (go_at_call 61; fail)
      refine HT.out.mono ?_
      rintro e w9 ⟨cur9, zs9, rfl, hg9, hC9, hmap9⟩
      have hg9s := hg9.size
      have hre9 := (hg9.block _ hrl hrg).trans HC8.out.1
      obtain ⟨q1, q2⟩ := one_cell hre9
      have h11 := setCell_at _ _ 0 _ _ (.slice (some ⟨g', 0, none⟩) zs9.length cap') hre9
      obtain ⟨q0, _⟩ := one_cell h11
      have hm9 : zs9.map (·.x) = save ((trim ((shut f M n.l).set i none)).set p (some { q with l := tidy (q.l.set j (asHole x)) })) := hmap9.trans (congrArg save HM.out)
      have hl9 : ((trim ((shut f M n.l).set i none)).set p (some { q with l := tidy (q.l.set j (asHole x)) })).length = zs9.length := by
        have := congrArg List.length hm9
        rw [List.length_map, save_length] at this
        exact this.symm
      have hB9 : Below w.heap.size w w9 := HC8.out.2.trans ⟨hg9.os, hg9.tape, hg9.output, hg9.size, fun b hb => hg9.block b (by have := HC8.out.2.size; omega) (by omega)⟩
      have H9 := Lib.hid (And.intro hC9 (And.intro hm9 (And.intro hl9 hB9)))
      clear hg9 hre9 h11 hC9 hmap9 hm9 hl9 hB9
      go_wp2
      refine bodyPost_ret (v := .tuple #[.agg #[.slice (some ⟨g', 0, none⟩) zs9.length cap'], .int .i64 0]) (by simp [results, Try.results47, go_sem, q0]) rfl ⟨⟨g', cap', cur9, zs9, by rw [H9.out.2.2.1], ?_, H9.out.2.1⟩, ?_⟩
      · exact H9.out.1.keep fun b hb _ => ⟨setCell_far w9 ⟨w.heap.size + 1, 0, none⟩ _ b (by show b ≠ w.heap.size + 1; omega), .inr (by omega)⟩
      · exact H9.out.2.2.2.setCell (p := ⟨w.heap.size + 1, 0, none⟩) (by show w.heap.size ≤ w.heap.size + 1; omega) _

set_option maxHeartbeats 2000000 in
theorem stopR_none (K : Nat → Prop) (w : World) (g cap : Nat) (cur : Array Value) (zs : List SZ) (M : Tr) (i : Int) (hC : Cop K w g cap cur zs) (hs : zs.map (·.x) = save M) (hf : find M i = none) :
    Calls Try.prog 47 #[.agg #[.slice (some ⟨g, 0, none⟩) M.length cap], .int .i64 i] w fun e w' => RefOut K w M (fun v => e = .returned (.tuple #[v, .int .i64 4])) w' ∧ Below w.heap.size w w' := by
  have hsz := aW_size w (some ⟨g, 0, none⟩) cap M
  have hbx := aW_box w (some ⟨g, 0, none⟩) cap M
  have hre := aW_res w (some ⟨g, 0, none⟩) cap M
  have hcl := lt_of_heap hC.row
  have HOn := Lib.hid (open_no K _ (some ⟨g, 0, none⟩) cap M i ((hC.below (aW_below w (some ⟨g, 0, none⟩) cap M)).stK hs) hf)
  have HB := Lib.hid (aW_below w (some ⟨g, 0, none⟩) cap M)
  have H := Lib.hid (And.intro hC hs)
  clear hC hs hf
  go_enter Try.func47, Try.ntmps47
  go_wp2_with (go_at_call 52; fail)
  have haW : (w.alloc (.cells #[.slice (some ⟨g, 0, none⟩) M.length cap] 28)).alloc (.cells #[.slice none 0 0] 28) = aW w (some ⟨g, 0, none⟩) cap M := rfl
  rw [haW]
  generalize aW w (some ⟨g, 0, none⟩) cap M = W2 at *
  clear haW
  refine HOn.out.mono ?_
  rintro e w1 ⟨rfl, hb1⟩
  have hbs := hb1.size
  replace hbx := (hb1.block _ (show w.heap.size < W2.heap.size by omega)).trans hbx
  replace hre := (hb1.block _ (show w.heap.size + 1 < W2.heap.size by omega)).trans hre
  obtain ⟨x0, x1⟩ := one_cell hbx
  obtain ⟨y0, y1⟩ := one_cell hre
  have HR := Lib.hid (And.intro hb1 (And.intro hbx hre))
  clear hb1 hbx hre
  go_wp2
  have h9 := setCell_at _ _ 0 _ _ (.slice (some ⟨g, 0, none⟩) M.length cap) HR.out.2.2
  obtain ⟨q0, _⟩ := one_cell h9
  have hb9 : Below w.heap.size w (w1.setCell ⟨w.heap.size + 1, 0, none⟩ (.slice (some ⟨g, 0, none⟩) M.length cap)) :=
    (HB.out.trans (HR.out.1.mono HB.out.size)).setCell (by show w.heap.size ≤ w.heap.size + 1; omega) _
  refine bodyPost_ret (v := .tuple #[.agg #[.slice (some ⟨g, 0, none⟩) M.length cap], .int .i64 4]) (by simp [results, Try.results47, go_sem, q0]) rfl ⟨⟨g, cap, cur, zs, rfl, ?_, H.out.2⟩, hb9⟩
  exact H.out.1.keep fun b hb hl => ⟨hb9.block b hl, .inl hb⟩


set_option maxHeartbeats 2000000 in
theorem stopR_root (K : Nat → Prop) (w : World) (g cap : Nat) (cur : Array Value) (zs : List SZ) (M : Tr) (n : Node) (hC : Cop K w g cap cur zs) (hs : zs.map (·.x) = save M) (hf : find M 0 = some n) :
    Calls Try.prog 47 #[.agg #[.slice (some ⟨g, 0, none⟩) M.length cap], .int .i64 0] w fun e w' => RefOut K w M (fun v => e = .returned (.tuple #[v, .int .i64 2])) w' ∧ Below w.heap.size w w' := by
  have hsz := aW_size w (some ⟨g, 0, none⟩) cap M
  have hbx := aW_box w (some ⟨g, 0, none⟩) cap M
  have hre := aW_res w (some ⟨g, 0, none⟩) cap M
  have hcl := lt_of_heap hC.row
  have HOn := Lib.hid (open_yes K _ (some ⟨g, 0, none⟩) cap M 0 n ((hC.below (aW_below w (some ⟨g, 0, none⟩) cap M)).stK hs) hf)
  have HB := Lib.hid (aW_below w (some ⟨g, 0, none⟩) cap M)
  have H := Lib.hid (And.intro hC hs)
  clear hC hs hf
  go_enter Try.func47, Try.ntmps47
  go_wp2_with (go_at_call 52; fail)
  have haW : (w.alloc (.cells #[.slice (some ⟨g, 0, none⟩) M.length cap] 28)).alloc (.cells #[.slice none 0 0] 28) = aW w (some ⟨g, 0, none⟩) cap M := rfl
  rw [haW]
  generalize aW w (some ⟨g, 0, none⟩) cap M = W2 at *
  clear haW
  refine HOn.out.mono ?_
  rintro e w1 ⟨rfl, hb1⟩
  have hbs := hb1.size
  replace hbx := (hb1.block _ (show w.heap.size < W2.heap.size by omega)).trans hbx
  replace hre := (hb1.block _ (show w.heap.size + 1 < W2.heap.size by omega)).trans hre
  obtain ⟨x0, x1⟩ := one_cell hbx
  obtain ⟨y0, y1⟩ := one_cell hre
  have HR := Lib.hid (And.intro hb1 (And.intro hbx hre))
  clear hb1 hbx hre
  go_wp2
  have h9 := setCell_at _ _ 0 _ _ (.slice (some ⟨g, 0, none⟩) M.length cap) HR.out.2.2
  obtain ⟨q0, _⟩ := one_cell h9
  have hb9 : Below w.heap.size w (w1.setCell ⟨w.heap.size + 1, 0, none⟩ (.slice (some ⟨g, 0, none⟩) M.length cap)) :=
    (HB.out.trans (HR.out.1.mono HB.out.size)).setCell (by show w.heap.size ≤ w.heap.size + 1; omega) _
  refine bodyPost_ret (v := .tuple #[.agg #[.slice (some ⟨g, 0, none⟩) M.length cap], .int .i64 2]) (by simp [results, Try.results47, go_sem, q0]) rfl ⟨⟨g, cap, cur, zs, rfl, ?_, H.out.2⟩, hb9⟩
  exact H.out.1.keep fun b hb hl => ⟨hb9.block b hl, .inl hb⟩


theorem stopR_ok (K : Nat → Prop) (w : World) (g cap : Nat) (cur : Array Value) (zs : List SZ) (M : Tr) (i : Int) (F : Nat) (hC : Cop K w g cap cur zs) (hs : zs.map (·.x) = save M) (hg : Good M) (hF : Big M F) :
    Calls Try.prog 47 #[.agg #[.slice (some ⟨g, 0, none⟩) M.length cap], .int .i64 i] w fun e w' => RefOut K w (stopAt M F i).1 (fun v => e = .returned (.tuple #[v, .int .i64 (stopAt M F i).2])) w' ∧ Below w.heap.size w w' := by
  unfold stopAt
  cases hf : find M i with
  | none => exact stopR_none K w g cap cur zs M i hC hs hf
  | some n =>
    dsimp only
    by_cases hi0 : i = 0
    · subst hi0
      rw [if_pos rfl]
      exact stopR_root K w g cap cur zs M n hC hs hf
    · rw [if_neg hi0]
      obtain ⟨h0, hi⟩ := find_some hf
      obtain ⟨i, rfl⟩ := Int.eq_ofNat_of_zero_le h0
      rw [Int.toNat_natCast] at hi
      obtain ⟨hp, q, x, hq, hx, hxc, hfx⟩ := stop_finds hg hi (by omega)
      rw [hq]
      dsimp only
      rw [hx]
      dsimp only
      obtain ⟨d, D, hr, hD⟩ := hF
      obtain ⟨f, rfl⟩ : ∃ f, F = f + 1 := ⟨F - 1, by omega⟩
      have hsub : [x].Sublist q.l := List.singleton_sublist.2 (List.mem_of_getElem? hx)
      obtain ⟨s1, s2, s3⟩ := shut_good hg hr hq hsub (F := f + 1) (by omega)
      have hgi := not_gone hg hr hq hsub
      have hopen : (shut (f + 1) M [x])[n.p.toNat]? = some (some q) := (s3 _ hgi).trans hq
      have hsh : shut (f + 1) M [x] = (shut f M n.l).set i none := by
        rw [shut_fold]
        show shutStep f M x = _
        unfold shutStep itemsOf
        rw [if_pos (by omega), hxc, Int.toNat_natCast, hi]
      rw [hsh] at hopen ⊢
      obtain ⟨n1, hn1, _, hok⟩ := s1 0 x rfl (by omega)
      have hn1' : n1 = n := by
        rw [hxc, Int.toNat_natCast] at hn1
        have : M[i]? = some (some n1) := hn1
        rw [hi] at this
        injection this with this; injection this with this; exact this.symm
      subst hn1'
      obtain ⟨p, hpe⟩ := Int.eq_ofNat_of_zero_le hp
      rw [hpe, Int.toNat_natCast] at hq hopen ⊢
      refine stopR_yes K w g cap cur zs M i p (placeOf q i) f n1 q x hC hs hg hi (by omega) hpe hq hx hxc (fun t y hy hyc => ?_) hok hopen
      have hu := (hg.node _ _ hq).uniq
      rw [List.pairwise_iff_getElem] at hu
      obtain ⟨ha, hax⟩ := List.getElem?_eq_some_iff.1 hy
      obtain ⟨hb, hbx⟩ := List.getElem?_eq_some_iff.1 hx
      rcases Nat.lt_trichotomy t (placeOf q i) with h1 | h1 | h1
      · exact absurd (by rw [hax, hbx, hyc, hxc]) (hu t _ ha hb h1 (by rw [hax, hyc]; omega))
      · exact h1
      · exact absurd (by rw [hax, hbx, hyc, hxc]) (hu _ t hb ha h1 (by rw [hbx, hxc]; omega))
end Ne
end Go.Proofs.Ytllmddhahpegmaa
