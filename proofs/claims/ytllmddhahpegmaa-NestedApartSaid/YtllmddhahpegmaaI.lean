/- The walks of tidy. -/
import Derived.Test.YtllmddhahpegmaaH
import Derived.Test.YtllmddhahpegmaaPlain5
namespace Go.Proofs.Ytllmddhahpegmaa
open Go.RowKit
namespace Ne

theorem row_prefix {w : World} {A : Option Addr} {c m : Nat} {l : List Item} (h : w.ownsRow 0 54 3 (.slice A l.length c) l.length (icells l)) (hm : m ≤ l.length) :
    w.ownsRow 0 54 3 (.slice A m c) (l.take m).length (icells (l.take m)) := by
  have hl : (l.take m).length = m := by simp; omega
  rw [hl]
  refine ⟨by rw [icells_length, hl], ?_⟩
  rcases h.2 with ⟨h1, h2⟩ | ⟨g, cap, cur, h1, hb, hg, hlc, hcm, hcs, htake⟩
  · injection h1 with h1 h3 h4
    left
    have : m = 0 := by omega
    subst this h1 h4
    exact ⟨rfl, rfl⟩
  · injection h1 with h1 h3 h4
    subst h1 h4
    refine .inr ⟨g, _, cur, rfl, hb, hg, by omega, hcm, hcs, ?_⟩
    have : icells l = icells (l.take m) ++ icells (l.drop m) := by rw [← icells_append, List.take_append_drop]
    have h5 : (icells (l.take m)).length = m * 3 := by rw [icells_length, hl]
    have h6 : cur.toList.take (m * 3) = (cur.toList.take (l.length * 3)).take (m * 3) := by rw [List.take_take, Nat.min_eq_left (by omega)]
    rw [h6, htake, this, ← h5, List.take_left]

/-- One block is written, all others are as they were. -/
structure Only (b : Nat) (w w' : World) : Prop where
  os : w'.os = w.os
  tape : w'.tape = w.tape
  output : w'.output = w.output
  size : w'.heap.size = w.heap.size
  block : ∀ k, k ≠ b → w'.heap[k]? = w.heap[k]?

theorem Only.refl (b : Nat) (w : World) : Only b w w := ⟨rfl, rfl, rfl, rfl, fun _ _ => rfl⟩
theorem Only.setCell {b : Nat} {w w' : World} (h : Only b w w') (o : Nat) (v : Value) : Only b w (w'.setCell ⟨b, o, none⟩ v) :=
  ⟨h.os, h.tape, h.output, (setCell_size _ _ _).trans h.size, fun k hk => (setCell_far _ _ _ _ hk).trans (h.block k hk)⟩
theorem Only.cell {b : Nat} {w w' : World} (h : Only b w w') {p : Addr} (hp : p.block ≠ b) : w'.cell? p = w.cell? p := World.cell?_of_block (h.block _ hp)

set_option maxRecDepth 100000 in
set_option maxHeartbeats 1000000 in
theorem tidy_ok (w : World) (b : Nat) (n : Node) (A : Option Addr) (c : Nat) (hb : w.heap[b]? = some (NodeCells n (.slice A n.l.length c))) (hr : w.ownsRow 0 54 3 (.slice A n.l.length c) n.l.length (icells n.l)) (hne : (Value.slice A n.l.length c).ownBlock ≠ some b) (hlen : n.l.length ≤ 200) :
    Calls Try.prog 41 #[.pointer (some ⟨b, 0, none⟩)] w fun e w' => e = .returned (.tuple #[]) ∧ w'.heap[b]? = some (NodeCells n (.slice A (tidy n.l).length c)) ∧ Only b w w' ∧ ∃ m, m ≤ n.l.length ∧ tidy n.l = n.l.take m := by
  obtain ⟨hlc, hcm, hcell⟩ := rowCells hr
  unfold maxLen at hcm
  obtain ⟨c0, c1, c2, c3, c4, cf⟩ := nodeOpen hb
  have HC := Lib.hid hcell
  have HB := Lib.hid (And.intro hb hne)
  have HT := Lib.hid (fun m hm h1 h2 => tidy_take n.l m hm h1 h2)
  clear hcell hr hb hne
  generalize hL : n.l.length = L at *
  have HL := Lib.hid hL
  clear hL
  go_enter Try.func41, Try.ntmps41
  go_step3
  go_wp2_with fail
  go_step3
  go_wp2_with fail
  go_loopw [2] (fun k wr => ∃ m : Nat, m ≤ L ∧ k = .int .i64 ((m : Int) - 1) ∧ wr.heap[b]? = some (NodeCells n (.slice A m c)) ∧ Only b w wr ∧ ∀ j x, m ≤ j → n.l[j]? = some x → x.c = -2) (fun k _ => (intOf k + 1).toNat)
  case atStart => exact ⟨L, Nat.le_refl _, rfl, HB.out.1, Only.refl _ _, fun j x hj hx => by rw [List.getElem?_eq_none (by rw [HL.out]; exact hj)] at hx; cases hx⟩
  case round =>
    obtain ⟨m, hm, rfl, hb, ho, hall⟩ := hrel
    have HALL := Lib.hid hall
    have HO := Lib.hid ho
    obtain ⟨d0, d1, d2, d3, d4, df⟩ := nodeOpen hb
    have df := df 3
    have HBB := Lib.hid hb
    clear hall ho hb
    by_cases hm0 : m = 0
    · subst hm0
      go_wp2
      rw [Exit.noGoto_normal]
      go_end0
      have ht := HT.out 0 (by omega) HALL.out (.inl rfl)
      refine ⟨rfl, ?_, HO.out, 0, Nat.zero_le _, ht⟩
      rw [ht]
      exact HBB.out
    · obtain ⟨j, rfl⟩ : ∃ j, m = j + 1 := ⟨m - 1, by omega⟩
      obtain ⟨x, hx⟩ : ∃ x, n.l[j]? = some x := ⟨_, List.getElem?_eq_getElem (by rw [HL.out]; omega)⟩
      obtain ⟨g', rfl, hg', k1, k2, k3⟩ := HC.out j x hx
      have hgb : g' ≠ b := fun e => HB.out.2 (by rw [e]; rfl)
      have k3 := (HO.out.cell (p := ⟨g', j * 3 + 2, none⟩) hgb).trans k3
      have HX := Lib.hid hx
      clear hx k1 k2
      by_cases hc : x.c = -2
      · rw [hc] at k3
        have HCc := Lib.hid hc
        clear hc
        go_wp2
        go_roundw
        case rel => exact ⟨j, by omega, by go_num, by rw [setCell_at _ _ _ _ _ _ HBB.out]; rfl, HO.out.setCell _ _, fun i y hi hy => by
          by_cases e : i = j
          · subst e
            rw [HX.out] at hy
            injection hy with hy
            rw [← hy]; exact HCc.out
          · exact HALL.out i y (by omega) hy⟩
        case measure => simp [intOf]
      · have hcb : (x.c != -2) = true := by rw [bne_iff_ne]; exact hc
        have HCc := Lib.hid hc
        clear hc
        go_wp2
        rw [Exit.noGoto_normal]
        go_end0
        have ht := HT.out (j + 1) (by omega) HALL.out (.inr ⟨x, HX.out, HCc.out⟩)
        refine ⟨rfl, ?_, HO.out, j + 1, by omega, ht⟩
        rw [ht, List.length_take, HL.out, Nat.min_eq_left (by omega)]
        exact HBB.out
end Ne
end Go.Proofs.Ytllmddhahpegmaa
