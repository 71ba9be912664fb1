/- What is left where a call is refused. -/
import Derived.Test.YtlknhbcambdccaaJVM
namespace Go.Proofs.Ytlknhbcambdccaa
open Go.RowKit
namespace Sl
open Bu

theorem free_refused {C : Ca} {L L' : List Blk} {n : Nat} {at_ : Int} {sl : List Slb} (hf : freeC C L at_ = (n, sl, L')) (hn : n ≠ 0) : sl = C.sl ∧ L' = L := by
  have fin : ∀ (m : Nat), (m, C.sl, L) = (n, sl, L') → sl = C.sl ∧ L' = L := fun m e => by
    injection e with _ e; injection e with h1 h2
    exact ⟨h1.symm, h2.symm⟩
  have bad : ∀ (l : List Slb) (M : List Blk), (0, l, M) = (n, sl, L') → sl = C.sl ∧ L' = L := fun l M e => by
    injection e with e _
    exact absurd e.symm hn
  unfold freeC at hf
  split at hf
  · exact fin _ hf
  · split at hf
    · exact fin _ hf
    · split at hf
      · exact fin _ hf
      · split at hf
        · exact fin _ hf
        · dsimp only at hf
          split at hf
          · exact bad _ _ hf
          · split at hf
            · exact bad _ _ hf
            · split at hf
              · exact bad _ _ hf
              · exact bad _ _ hf

/-- The program's cache, and where the law keeps what it saved. -/
structure MinS (w0 w5 : World) (own : Own?) (c b x p10 p11 : Nat) (C : Ca) (N : Nat) (L : List Blk) (W : World) : Prop where
  mine : Mine w0 own c b C N L W
  le5 : w5.heap.size ≤ W.heap.size
  fr5 : ∀ z, own z ≠ none → z < w5.heap.size
  ox : own x = none
  xl : x < W.heap.size
  x0 : W.cell? ⟨x, 0, none⟩ = some (.pointer (some ⟨b, 0, none⟩))
  x1 : W.cell? ⟨x, 1, none⟩ = some (.pointer (some ⟨c, 0, none⟩))
  b10 : ∃ u1 u2 u3 u4, W.heap[p10]? = some (.cells #[u1, u2, u3, u4] 69 (0, 0))
  b11 : ∃ u5 u6, W.heap[p11]? = some (.cells #[u5, u6] 46 (0, 0))
  g10 : w5.heap.size ≤ p10
  g11 : w5.heap.size ≤ p11
  ne : p10 ≠ p11
theorem MinS.keep {w0 w5 W W' : World} {own : Own?} {c b x p10 p11 : Nat} {C C' : Ca} {N : Nat} {L L' : List Blk} (h : MinS w0 w5 own c b x p10 p11 C N L W) (hM : Mine w0 own c b C' N L' W') (hK : Keeps own own W W') : MinS w0 w5 own c b x p10 p11 C' N L' W' := by
  obtain ⟨u1, u2, u3, u4, h1⟩ := h.b10
  obtain ⟨u5, u6, h2⟩ := h.b11
  have hn : ∀ z, w5.heap.size ≤ z → own z = none := fun z hz => Classical.byContradiction fun e => by have := h.fr5 z e; omega
  have hx := hK.block x h.xl h.ox
  exact ⟨hM, Nat.le_trans h.le5 hK.size, h.fr5, h.ox, Nat.lt_of_lt_of_le h.xl hK.size, (World.cell?_of_block (a := ⟨x, 0, none⟩) hx).trans h.x0, (World.cell?_of_block (a := ⟨x, 1, none⟩) hx).trans h.x1, ⟨u1, u2, u3, u4, (hK.block p10 (lt_of_heap h1) (hn _ h.g10)).trans h1⟩, ⟨u5, u6, (hK.block p11 (lt_of_heap h2) (hn _ h.g11)).trans h2⟩, h.g10, h.g11, h.ne⟩
theorem MinS.below {w0 w5 W W' : World} {own : Own?} {c b x p10 p11 : Nat} {C : Ca} {N : Nat} {L : List Blk} (h : MinS w0 w5 own c b x p10 p11 C N L W) (hb : Below W.heap.size W W') : MinS w0 w5 own c b x p10 p11 C N L W' := h.keep (h.mine.step hb) (.of_below own hb)

/-- What was saved. -/
structure SavS (w5 : World) (p10 p11 : Nat) (C : Ca) (N : Nat) (L : List Blk) (A3 : Option Addr) (c3 : Nat) (A4 : Option Addr) (c4 : Nat) (W : World) : Prop where
  h10 : W.heap[p10]? = some (.cells #[.int .i64 (C.size : Int), .int .i64 (C.order : Int), .int .i64 (C.keep : Int), .slice A3 C.sl.length c3] 69 (0, 0))
  h11 : W.heap[p11]? = some (.cells #[.int .i64 (N : Int), .slice A4 L.length c4] 46 (0, 0))
  g10 : w5.heap.size ≤ p10
  g11 : w5.heap.size ≤ p11
  sb : SbAt w5.heap.size W A3 c3 (saveS C.sl)
  bl : Bu.Own W w5.heap.size A4 c4 L
theorem SavS.keep {w5 W W' : World} {p10 p11 : Nat} {C : Ca} {N : Nat} {L : List Blk} {A3 A4 : Option Addr} {c3 c4 : Nat} (h : SavS w5 p10 p11 C N L A3 c3 A4 c4 W) (hs : W.heap.size ≤ W'.heap.size) (hk : ∀ z, w5.heap.size ≤ z → z < W.heap.size → W'.heap[z]? = W.heap[z]?) : SavS w5 p10 p11 C N L A3 c3 A4 c4 W' :=
  ⟨(hk p10 h.g10 (lt_of_heap h.h10)).trans h.h10, (hk p11 h.g11 (lt_of_heap h.h11)).trans h.h11, h.g10, h.g11, h.sb.keep hs hk, row_sameB h.bl fun g hg => by
    obtain ⟨h1, h2⟩ := h.bl.lt g hg
    exact hk g h1 h2⟩
theorem SavS.below {w5 W W' : World} {p10 p11 : Nat} {C : Ca} {N : Nat} {L : List Blk} {A3 A4 : Option Addr} {c3 c4 : Nat} (h : SavS w5 p10 p11 C N L A3 c3 A4 c4 W) (hb : Below W.heap.size W W') : SavS w5 p10 p11 C N L A3 c3 A4 c4 W' := h.keep hb.size fun z _ hz => hb.block z hz
theorem SavS.keeps {w0 w5 W W' : World} {own : Own?} {c b x p10 p11 : Nat} {C C' : Ca} {N : Nat} {L L' : List Blk} {A3 A4 : Option Addr} {c3 c4 : Nat} (h : SavS w5 p10 p11 C N L A3 c3 A4 c4 W) (hm : MinS w0 w5 own c b x p10 p11 C' N L' W) (hK : Keeps own own W W') : SavS w5 p10 p11 C N L A3 c3 A4 c4 W' :=
  h.keep hK.size fun z h1 h2 => hK.block z h2 (Classical.byContradiction fun e => by have := hm.fr5 z e; omega)

/-- The cells that are read. -/
abbrev RdS (x b c p10 p11 sz od kp N sn ln : Nat) (A3 : Option Addr) (c3 : Nat) (A4 : Option Addr) (c4 : Nat) (w' : World) : Prop :=
  w'.cell? ⟨x, 0, none⟩ = some (.pointer (some ⟨b, 0, none⟩)) ∧ w'.cell? ⟨x, 1, none⟩ = some (.pointer (some ⟨c, 0, none⟩)) ∧ w'.cell? ⟨p10, 0, none⟩ = some (.int .i64 (sz : Int)) ∧ w'.cell? ⟨p10, 1, none⟩ = some (.int .i64 (od : Int)) ∧ w'.cell? ⟨p10, 2, none⟩ = some (.int .i64 (kp : Int)) ∧ w'.cell? ⟨p10, 3, none⟩ = some (.slice A3 sn c3) ∧ w'.cell? ⟨p11, 0, none⟩ = some (.int .i64 (N : Int)) ∧ w'.cell? ⟨p11, 1, none⟩ = some (.slice A4 ln c4)
theorem rd_of {w0 w5 W : World} {own : Own?} {c b x p10 p11 : Nat} {C C' : Ca} {N : Nat} {L L' : List Blk} {A3 A4 : Option Addr} {c3 c4 sn ln : Nat} (h : SavS w5 p10 p11 C N L A3 c3 A4 c4 W) (hm : MinS w0 w5 own c b x p10 p11 C' N L' W) (hsn : sn = C.sl.length) (hln : ln = L.length) : RdS x b c p10 p11 C.size C.order C.keep N sn ln A3 c3 A4 c4 W := by
  subst hsn; subst hln
  obtain ⟨q0, q1, q2, q3⟩ := four_at h.h10
  obtain ⟨r0, r1, _, _⟩ := Bu.two_cells h.h11
  exact ⟨hm.x0, hm.x1, q0, q1, q2, q3, r0, r1⟩

theorem MinS.nx {w0 w5 W : World} {own : Own?} {c b x p10 p11 : Nat} {C : Ca} {N : Nat} {L : List Blk} (h : MinS w0 w5 own c b x p10 p11 C N L W) (z : Nat) (hz : w5.heap.size ≤ z) : own z = none := Classical.byContradiction fun e => by have := h.fr5 z e; omega
theorem MinS.sets {w0 w5 W : World} {own : Own?} {c b x p10 p11 : Nat} {C : Ca} {N : Nat} {L : List Blk} (h : MinS w0 w5 own c b x p10 p11 C N L W) (hx : x < w5.heap.size) (hw : w0.heap.size ≤ w5.heap.size) (a1 a2 a3 a4 a5 a6 : Value) :
    MinS w0 w5 own c b x p10 p11 C N L ((((((W.setCell ⟨p10, 0, none⟩ a1).setCell ⟨p10, 1, none⟩ a2).setCell ⟨p10, 2, none⟩ a3).setCell ⟨p10, 3, none⟩ a4).setCell ⟨p11, 0, none⟩ a5).setCell ⟨p11, 1, none⟩ a6) := by
  have h1 := h.nx p10 h.g10
  have h2 := h.nx p11 h.g11
  have g1 := h.g10
  have g2 := h.g11
  have hf : ∀ z, z ≠ p10 → z ≠ p11 → ((((((W.setCell ⟨p10, 0, none⟩ a1).setCell ⟨p10, 1, none⟩ a2).setCell ⟨p10, 2, none⟩ a3).setCell ⟨p10, 3, none⟩ a4).setCell ⟨p11, 0, none⟩ a5).setCell ⟨p11, 1, none⟩ a6).heap[z]? = W.heap[z]? := fun z k1 k2 =>
    (setCell_far _ _ _ _ k2).trans ((setCell_far _ _ _ _ k2).trans ((setCell_far _ _ _ _ k1).trans ((setCell_far _ _ _ _ k1).trans ((setCell_far _ _ _ _ k1).trans (setCell_far _ _ _ _ k1)))))
  have hsz : ((((((W.setCell ⟨p10, 0, none⟩ a1).setCell ⟨p10, 1, none⟩ a2).setCell ⟨p10, 2, none⟩ a3).setCell ⟨p10, 3, none⟩ a4).setCell ⟨p11, 0, none⟩ a5).setCell ⟨p11, 1, none⟩ a6).heap.size = W.heap.size := by simp only [setCell_size]
  obtain ⟨u1, u2, u3, u4, k10⟩ := h.b10
  obtain ⟨u5, u6, k11⟩ := h.b11
  refine ⟨⟨(((((((h.mine.held.setx h1 _).setx h1 _).setx h1 _).setx h1 _).setx h2 _).setx h2 _)), ((((((h.mine.below.setCell (p := ⟨p10, 0, none⟩) (Nat.le_trans hw g1) _).setCell (p := ⟨p10, 1, none⟩) (Nat.le_trans hw g1) _).setCell (p := ⟨p10, 2, none⟩) (Nat.le_trans hw g1) _).setCell (p := ⟨p10, 3, none⟩) (Nat.le_trans hw g1) _).setCell (p := ⟨p11, 0, none⟩) (Nat.le_trans hw g2) _).setCell (p := ⟨p11, 1, none⟩) (Nat.le_trans hw g2) _), h.mine.out⟩, by rw [hsz]; exact h.le5, h.fr5, h.ox, by rw [hsz]; exact h.xl, ?_, ?_, ?_, ?_, g1, g2, h.ne⟩
  · exact (World.cell?_of_block (a := ⟨x, 0, none⟩) (hf x (by omega) (by omega))).trans h.x0
  · exact (World.cell?_of_block (a := ⟨x, 1, none⟩) (hf x (by omega) (by omega))).trans h.x1
  · exact ⟨a1, a2, a3, a4, (setCell_far _ _ _ _ h.ne).trans ((setCell_far _ _ _ _ h.ne).trans (setCell_at _ _ 3 _ _ _ (setCell_at _ _ 2 _ _ _ (setCell_at _ _ 1 _ _ _ (setCell_at _ _ 0 _ _ _ k10)))))⟩
  · have h5 : ((((W.setCell ⟨p10, 0, none⟩ a1).setCell ⟨p10, 1, none⟩ a2).setCell ⟨p10, 2, none⟩ a3).setCell ⟨p10, 3, none⟩ a4).heap[p11]? = some (.cells #[u5, u6] 46 (0, 0)) := (setCell_far _ _ _ _ h.ne.symm).trans ((setCell_far _ _ _ _ h.ne.symm).trans ((setCell_far _ _ _ _ h.ne.symm).trans ((setCell_far _ _ _ _ h.ne.symm).trans k11)))
    exact ⟨a5, a6, setCell_at _ _ 1 _ _ _ (setCell_at _ _ 0 _ _ _ h5)⟩
theorem MinS.old {w0 w5 V1 Y1 : World} {own : Own?} {c b x p10 p11 : Nat} {C : Ca} {N : Nat} {L : List Blk} (h : MinS w0 w5 own c b x p10 p11 C N L V1) (h1 : MinS w0 w5 own c b x p10 p11 C N L Y1) : p10 < V1.heap.size ∧ p11 < V1.heap.size ∧ p10 < Y1.heap.size ∧ p11 < Y1.heap.size := by
  obtain ⟨_, _, _, _, k10⟩ := h.b10
  obtain ⟨_, _, k11⟩ := h.b11
  obtain ⟨_, _, _, _, m10⟩ := h1.b10
  obtain ⟨_, _, m11⟩ := h1.b11
  exact ⟨lt_of_heap k10, lt_of_heap k11, lt_of_heap m10, lt_of_heap m11⟩
theorem MinS.far4 {w0 w5 W : World} {own : Own?} {c b x p10 p11 : Nat} {C : Ca} {N : Nat} {L : List Blk} (h : MinS w0 w5 own c b x p10 p11 C N L W) (hx : x < w5.heap.size) (a1 a2 a3 a4 : Value) :
    ((((W.setCell ⟨p10, 0, none⟩ a1).setCell ⟨p10, 1, none⟩ a2).setCell ⟨p10, 2, none⟩ a3).setCell ⟨p10, 3, none⟩ a4).cell? ⟨x, 0, none⟩ = some (.pointer (some ⟨b, 0, none⟩)) ∧ ((((W.setCell ⟨p10, 0, none⟩ a1).setCell ⟨p10, 1, none⟩ a2).setCell ⟨p10, 2, none⟩ a3).setCell ⟨p10, 3, none⟩ a4).cell? ⟨x, 1, none⟩ = some (.pointer (some ⟨c, 0, none⟩)) := by
  have g1 := h.g10
  have hn : x ≠ p10 := by omega
  have hf : ((((W.setCell ⟨p10, 0, none⟩ a1).setCell ⟨p10, 1, none⟩ a2).setCell ⟨p10, 2, none⟩ a3).setCell ⟨p10, 3, none⟩ a4).heap[x]? = W.heap[x]? := (setCell_far _ _ _ _ hn).trans ((setCell_far _ _ _ _ hn).trans ((setCell_far _ _ _ _ hn).trans (setCell_far _ _ _ _ hn)))
  exact ⟨(World.cell?_of_block (a := ⟨x, 0, none⟩) hf).trans h.x0, (World.cell?_of_block (a := ⟨x, 1, none⟩) hf).trans h.x1⟩
theorem MinS.far6 {w0 w5 W : World} {own : Own?} {c b x p10 p11 : Nat} {C : Ca} {N : Nat} {L : List Blk} (h : MinS w0 w5 own c b x p10 p11 C N L W) (hx : x < w5.heap.size) (hw : w0.heap.size ≤ w5.heap.size) (a1 a2 a3 a4 a5 a6 : Value) :
    ((((((W.setCell ⟨p10, 0, none⟩ a1).setCell ⟨p10, 1, none⟩ a2).setCell ⟨p10, 2, none⟩ a3).setCell ⟨p10, 3, none⟩ a4).setCell ⟨p11, 0, none⟩ a5).setCell ⟨p11, 1, none⟩ a6).cell? ⟨x, 0, none⟩ = some (.pointer (some ⟨b, 0, none⟩)) ∧ ((((((W.setCell ⟨p10, 0, none⟩ a1).setCell ⟨p10, 1, none⟩ a2).setCell ⟨p10, 2, none⟩ a3).setCell ⟨p10, 3, none⟩ a4).setCell ⟨p11, 0, none⟩ a5).setCell ⟨p11, 1, none⟩ a6).cell? ⟨x, 1, none⟩ = some (.pointer (some ⟨c, 0, none⟩)) :=
  ⟨(h.sets hx hw a1 a2 a3 a4 a5 a6).x0, (h.sets hx hw a1 a2 a3 a4 a5 a6).x1⟩
end Sl
end Go.Proofs.Ytlknhbcambdccaa
