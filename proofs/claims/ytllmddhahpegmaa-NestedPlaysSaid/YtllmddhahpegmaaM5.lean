/- The walk of Owner's search. The walks of tidy. The walks of shut. -/
import Derived.Test.YtllmddhahpegmaaM4
namespace Go.Proofs.Ytllmddhahpegmaa
open Go.RowKit
namespace Ne

set_option maxRecDepth 100000 in
set_option maxHeartbeats 1000000 in
theorem owner_in (w : World) (own : Nat → Option Nat) (t g cap : Nat) (cs : Array Value) (M : Tr) (y : Int) (r : Node) (h : TreeAt w own t g cap cs M) (hg : Good M) (hr : M[0]? = some (some r)) (hra : r.a = 0) (hy0 : 0 ≤ y) (hy1 : y < r.s) :
    Calls Try.prog 14 #[.pointer (some ⟨t, 0, none⟩), .int .i64 y] w fun e w' => (∃ k i, e = .returned (.tuple #[.int .i64 (k : Nat), .int .i64 i, .int .i64 0]) ∧ Owns M y k i) ∧ Below w.heap.size w w' := by
  obtain ⟨d, D, hd, hrk⟩ := hg.rank
  have hp := hg.pos
  have hm := hg.len
  have hlen := h.len
  have hmost := h.most
  unfold maxLen at hmost
  have hT : w.cell? ⟨t, 0, none⟩ = some (.slice (some ⟨g, 0, none⟩) M.length cap) := by simp [World.cell?, h.top]
  have htl := lt_of_heap h.top
  have hgl := lt_of_heap h.row
  obtain ⟨v, hv, b, iv, rfl, hob, hbh, hil⟩ := h.node _ _ hr
  have hN : w.cell? ⟨g, 0, none⟩ = some (.pointer (some ⟨b, 0, none⟩)) := by rw [cell_of_row w g _ cs _ _ h.row, hv]
  obtain ⟨c0, c1, c2, c3, c4, _⟩ := nodeOpen hbh
  have hbl := lt_of_heap hbh
  have HM := fun w2 (hw : w2.cell? ⟨t, 0, none⟩ = some (.slice (some ⟨g, 0, none⟩) M.length cap)) => made_ok w2 t _ _ _ hp hw
  have HMM := Lib.hid HM
  have HH := Lib.hid (And.intro h (And.intro hg (And.intro hr hra)))
  have hd0 : decide (y < 0) = false := by simp; omega
  have HRK := Lib.hid (And.intro hd hrk)
  clear h hg hr hbh hil hv hob HM hd hrk hra
  go_enter Try.func14, Try.ntmps14
  go_wp2_with (go_at_call 29; refine (HMM.out _ (by rw [World.cell?_alloc_lt _ _ _ htl]; exact hT)).mono ?_; rintro e w' ⟨rfl, rfl⟩)
  go_quiet (fail)
  go_wp2_with fail
  have hB0 : Below w.heap.size w ((w.alloc (.cells #[.int .i64 y] 2)).drewN nq) := below_drewN ((Below.refl _ _).alloc (Nat.le_refl _) _) _
  have hbox : ((w.alloc (.cells #[.int .i64 y] 2)).drewN nq).cell? ⟨w.heap.size, 0, none⟩ = some (.int .i64 y) := by
    show (w.alloc _).cell? _ = _
    rw [World.cell?_alloc_at _ _ _ _ rfl]; rfl
  have hsz : w.heap.size < ((w.alloc (.cells #[.int .i64 y] 2)).drewN nq).heap.size := by simp
  generalize ((w.alloc (.cells #[.int .i64 y] 2)).drewN nq) = W1 at *
  have hB0 := Lib.hid hB0
  go_loopw [4, 7, 8] (fun s l i wr => ∃ (k : Nat) (n : Node), s = .int .i64 k ∧ M[k]? = some (some n) ∧ n.a ≤ y ∧ y < n.a + n.s ∧ Below W1.heap.size W1 wr) (fun s _ _ _ => D - d (intOf s).toNat)
  case atStart => exact ⟨0, r, rfl, HH.out.2.2.1, by rw [HH.out.2.2.2]; omega, by rw [HH.out.2.2.2]; omega, Below.refl _ _⟩
  case round =>
    obtain ⟨k, n, rfl, hk, ha, hs, hb⟩ := hrel
    have hTr : TreeAt wr own t g cap cs M := HH.out.1.same fun k _ hk' => ⟨(hb.block k (Nat.lt_of_lt_of_le hk' hB0.out.size)).trans (hB0.out.block k hk'), rfl⟩
    have hok := HH.out.2.1.node k n hk
    obtain ⟨v, hv, b2, iv2, rfl, hob2, hbh2, hil2⟩ := hTr.node _ _ hk
    obtain ⟨A2, cc2, rfl⟩ := itemsLen hil2
    have r1 : wr.cell? ⟨t, 0, none⟩ = some (.slice (some ⟨g, 0, none⟩) M.length cap) := by simp [World.cell?, hTr.top]
    have r2 : wr.cell? ⟨g, k, none⟩ = some (.pointer (some ⟨b2, 0, none⟩)) := by rw [cell_of_row wr g _ cs _ _ hTr.row, hv]
    obtain ⟨_, _, _, r3, _, _⟩ := nodeOpen hbh2
    have hkl : k < M.length := (List.getElem?_eq_some_iff.1 hk).1
    have rb : wr.cell? ⟨w.heap.size, 0, none⟩ = some (.int .i64 y) := (hb.cell (p := ⟨w.heap.size, 0, none⟩) hsz).trans hbox
    have rbl : w.heap.size < wr.heap.size := Nat.lt_of_lt_of_le hsz hb.size
    have HI := Lib.hid (indexFunc_35 (.pointer (some ⟨w.heap.size, 0, none⟩)) (hasByte y) n.l A2 cc2 wr hok.len hil2.1 (fun x hx w2 h2 => by
      have := small_of hok x hx
      exact hasByte_ok w2 w.heap.size x y ((h2.cell (p := ⟨w.heap.size, 0, none⟩) rbl).trans rb) this.1 this.2.1 this.2.2))
    have HIt := Lib.hid (rowCells hil2.1)
    have HK := Lib.hid (And.intro hk (And.intro hok (And.intro ha hs)))
    have hll := hok.len
    clear hk hok ha hs hv hob2 hbh2 hil2 hTr
    by_cases hi : 0 ≤ fidx (hasByte y) n.l
    · obtain ⟨j, x, hj, hjl, hx, hpx⟩ := fidx_at hi
      rw [hj] at HI
      obtain ⟨g', rfl, hg', k1, k2, k3⟩ := HIt.out.2.2 j x hx
      have hcap := HIt.out.1
      have hcm := HIt.out.2.1
      unfold maxLen at hcm
      have HX := Lib.hid (And.intro hj (And.intro hx hpx))
      clear hj hx hpx hi
      generalize hL : n.l.length = L at *
      clear hL
      by_cases hc : x.c < 0
      · go_wp2_with (go_at_call 34; refine HI.out.mono ?_; rintro e w3 ⟨rfl, hb3⟩; have k3 : w3.cell? ⟨g', j * 3 + 2, none⟩ = some (.int .i64 x.c) := (hb3.cell (p := ⟨g', j * 3 + 2, none⟩) hg').trans k3)
        go_ret3
        refine ⟨⟨k, j, rfl, n, HK.out.1, HK.out.2.2.1, HK.out.2.2.2, HX.out.1.symm, ?_⟩, hB0.out.trans ((hb.trans (hb3.mono hb.size)).mono hB0.out.size)⟩
        intro x' _ hx'
        rw [Int.toNat_natCast, HX.out.2.1] at hx'
        injection hx' with hx'
        rw [← hx']; exact hc
      · go_wp2_with (go_at_call 34; refine HI.out.mono ?_; rintro e w3 ⟨rfl, hb3⟩; have k3 : w3.cell? ⟨g', j * 3 + 2, none⟩ = some (.int .i64 x.c) := (hb3.cell (p := ⟨g', j * 3 + 2, none⟩) hg').trans k3)
        have hc0 : 0 ≤ x.c := by omega
        have hxm := List.mem_of_getElem? HX.out.2.1
        obtain ⟨q, hq, q1, q2, q3⟩ := HK.out.2.1.kid x hxm hc0
        have hdd := HRK.out.2 k n HK.out.1 x hxm hc0
        have hdD := HRK.out.1 x.c.toNat
        have hby := HX.out.2.2
        simp only [hasByte, Bool.and_eq_true, decide_eq_true_eq] at hby
        go_roundw
        case rel => exact ⟨x.c.toNat, q, by rw [Int.toNat_of_nonneg hc0], hq, by omega, by omega, hb.trans (hb3.mono hb.size)⟩
        case measure => simp only [intOf, Int.toNat_natCast]; omega
    · have hj := fidx_lt hi
      rw [hj] at HI
      have HX := Lib.hid hj
      clear hj hi
      generalize hL : n.l.length = L at *
      clear hL
      go_wp2_with (go_at_call 34; refine HI.out.mono ?_; rintro e w3 ⟨rfl, hb3⟩)
      go_ret3
      refine ⟨⟨k, -1, rfl, n, HK.out.1, HK.out.2.2.1, HK.out.2.2.2, HX.out.symm, ?_⟩, hB0.out.trans ((hb.trans (hb3.mono hb.size)).mono hB0.out.size)⟩
      intro x' h0
      omega
end Ne
end Go.Proofs.Ytllmddhahpegmaa
namespace Go.Proofs.Ytllmddhahpegmaa
open Go.RowKit
namespace Ne

theorem row_prefix {w : World} {A : Option Addr} {c m : Nat} {l : List Item} (h : w.ownsRow 0 54 3 (.slice A l.length c) l.length (icells l)) (hm : m ≤ l.length) :
    w.ownsRow 0 54 3 (.slice A m c) (l.take m).length (icells (l.take m)) := by
  have hl : (l.take m).length = m := by simp; omega
  rw [hl]
  refine ⟨by rw [icells_length, hl], ?_⟩
  rcases h.2 with ⟨h1, h2⟩ | ⟨g, cap, cur, h1, hb, hg, hlc, hcm, hcs, htake⟩
  · injection h1 with h1 h3 h4
    left
    have : m = 0 := by omega
    subst this h1 h4
    exact ⟨rfl, rfl⟩
  · injection h1 with h1 h3 h4
    subst h1 h4
    refine .inr ⟨g, _, cur, rfl, hb, hg, by omega, hcm, hcs, ?_⟩
    have : icells l = icells (l.take m) ++ icells (l.drop m) := by rw [← icells_append, List.take_append_drop]
    have h5 : (icells (l.take m)).length = m * 3 := by rw [icells_length, hl]
    have h6 : cur.toList.take (m * 3) = (cur.toList.take (l.length * 3)).take (m * 3) := by rw [List.take_take, Nat.min_eq_left (by omega)]
    rw [h6, htake, this, ← h5, List.take_left]

/-- One block is written, all others are as they were. -/
structure Only (b : Nat) (w w' : World) : Prop where
  os : w'.os = w.os
  tape : w'.tape = w.tape
  output : w'.output = w.output
  size : w'.heap.size = w.heap.size
  block : ∀ k, k ≠ b → w'.heap[k]? = w.heap[k]?

theorem Only.refl (b : Nat) (w : World) : Only b w w := ⟨rfl, rfl, rfl, rfl, fun _ _ => rfl⟩
theorem Only.setCell {b : Nat} {w w' : World} (h : Only b w w') (o : Nat) (v : Value) : Only b w (w'.setCell ⟨b, o, none⟩ v) :=
  ⟨h.os, h.tape, h.output, (setCell_size _ _ _).trans h.size, fun k hk => (setCell_far _ _ _ _ hk).trans (h.block k hk)⟩
theorem Only.cell {b : Nat} {w w' : World} (h : Only b w w') {p : Addr} (hp : p.block ≠ b) : w'.cell? p = w.cell? p := World.cell?_of_block (h.block _ hp)

set_option maxRecDepth 100000 in
set_option maxHeartbeats 1000000 in
theorem tidy_ok (w : World) (b : Nat) (n : Node) (A : Option Addr) (c : Nat) (hb : w.heap[b]? = some (NodeCells n (.slice A n.l.length c))) (hr : w.ownsRow 0 54 3 (.slice A n.l.length c) n.l.length (icells n.l)) (hne : (Value.slice A n.l.length c).ownBlock ≠ some b) (hlen : n.l.length ≤ 200) :
    Calls Try.prog 41 #[.pointer (some ⟨b, 0, none⟩)] w fun e w' => e = .returned (.tuple #[]) ∧ w'.heap[b]? = some (NodeCells n (.slice A (tidy n.l).length c)) ∧ Only b w w' ∧ ∃ m, m ≤ n.l.length ∧ tidy n.l = n.l.take m := by
  obtain ⟨hlc, hcm, hcell⟩ := rowCells hr
  unfold maxLen at hcm
  obtain ⟨c0, c1, c2, c3, c4, cf⟩ := nodeOpen hb
  have HC := Lib.hid hcell
  have HB := Lib.hid (And.intro hb hne)
  have HT := Lib.hid (fun m hm h1 h2 => tidy_take n.l m hm h1 h2)
  clear hcell hr hb hne
  generalize hL : n.l.length = L at *
  have HL := Lib.hid hL
  clear hL
  go_enter Try.func41, Try.ntmps41
  go_step3
  go_wp2_with fail
  go_step3
  go_wp2_with fail
  go_loopw [2] (fun k wr => ∃ m : Nat, m ≤ L ∧ k = .int .i64 ((m : Int) - 1) ∧ wr.heap[b]? = some (NodeCells n (.slice A m c)) ∧ Only b w wr ∧ ∀ j x, m ≤ j → n.l[j]? = some x → x.c = -2) (fun k _ => (intOf k + 1).toNat)
  case atStart => exact ⟨L, Nat.le_refl _, rfl, HB.out.1, Only.refl _ _, fun j x hj hx => by rw [List.getElem?_eq_none (by rw [HL.out]; exact hj)] at hx; cases hx⟩
  case round =>
    obtain ⟨m, hm, rfl, hb, ho, hall⟩ := hrel
    have HALL := Lib.hid hall
    have HO := Lib.hid ho
    obtain ⟨d0, d1, d2, d3, d4, df⟩ := nodeOpen hb
    have df := df 3
    have HBB := Lib.hid hb
    clear hall ho hb
    by_cases hm0 : m = 0
    · subst hm0
      go_wp2
      rw [Exit.noGoto_normal]
      go_end0
      have ht := HT.out 0 (by omega) HALL.out (.inl rfl)
      refine ⟨rfl, ?_, HO.out, 0, Nat.zero_le _, ht⟩
      rw [ht]
      exact HBB.out
    · obtain ⟨j, rfl⟩ : ∃ j, m = j + 1 := ⟨m - 1, by omega⟩
      obtain ⟨x, hx⟩ : ∃ x, n.l[j]? = some x := ⟨_, List.getElem?_eq_getElem (by rw [HL.out]; omega)⟩
      obtain ⟨g', rfl, hg', k1, k2, k3⟩ := HC.out j x hx
      have hgb : g' ≠ b := fun e => HB.out.2 (by rw [e]; rfl)
      have k3 := (HO.out.cell (p := ⟨g', j * 3 + 2, none⟩) hgb).trans k3
      have HX := Lib.hid hx
      clear hx k1 k2
      by_cases hc : x.c = -2
      · rw [hc] at k3
        have HCc := Lib.hid hc
        clear hc
        go_wp2
        go_roundw
        case rel => exact ⟨j, by omega, by go_num, by rw [setCell_at _ _ _ _ _ _ HBB.out]; rfl, HO.out.setCell _ _, fun i y hi hy => by
          by_cases e : i = j
          · subst e
            rw [HX.out] at hy
            injection hy with hy
            rw [← hy]; exact HCc.out
          · exact HALL.out i y (by omega) hy⟩
        case measure => simp [intOf]
      · have hcb : (x.c != -2) = true := by rw [bne_iff_ne]; exact hc
        have HCc := Lib.hid hc
        clear hc
        go_wp2
        rw [Exit.noGoto_normal]
        go_end0
        have ht := HT.out (j + 1) (by omega) HALL.out (.inr ⟨x, HX.out, HCc.out⟩)
        refine ⟨rfl, ?_, HO.out, j + 1, by omega, ht⟩
        rw [ht, List.length_take, HL.out, Nat.min_eq_left (by omega)]
        exact HBB.out
end Ne
end Go.Proofs.Ytllmddhahpegmaa
namespace Go.Proofs.Ytllmddhahpegmaa
open Go.RowKit
namespace Ne

theorem shut_length (f : Nat) : ∀ (t : Tr) (l : List Item), (shut f t l).length = t.length := by
  induction f with
  | zero => intro t l; rfl
  | succ f ih =>
    intro t l
    unfold shut
    induction l generalizing t with
    | nil => rfl
    | cons x l ih2 =>
      rw [List.foldl_cons, ih2]
      split
      · rw [List.length_set, ih]
      · rfl

theorem shut_fold (f : Nat) (t : Tr) (l : List Item) : shut (f + 1) t l = l.foldl (shutStep f) t := rfl

theorem fold_length (f : Nat) (l : List Item) (t : Tr) : (l.foldl (shutStep f) t).length = t.length := by
  rw [← shut_fold, shut_length]

theorem fold_take (f : Nat) (t : Tr) (l : List Item) (j : Nat) (x : Item) (h : l[j]? = some x) : (l.take (j + 1)).foldl (shutStep f) t = shutStep f ((l.take j).foldl (shutStep f) t) x := by
  obtain ⟨hl, rfl⟩ := List.getElem?_eq_some_iff.1 h
  rw [List.take_succ_eq_append_getElem hl, List.foldl_append]
  rfl

theorem shut_none (f : Nat) : ∀ (t : Tr) (l : List Item) (i : Nat), t[i]? = some none → (shut f t l)[i]? = some none := by
  induction f with
  | zero => intro t l i h; exact h
  | succ f ih =>
    intro t l i h
    rw [shut_fold]
    induction l generalizing t with
    | nil => exact h
    | cons x l ih2 =>
      rw [List.foldl_cons]
      apply ih2
      unfold shutStep
      split
      · rw [List.getElem?_set]
        have hl := (List.getElem?_eq_some_iff.1 h).1
        split
        · next e => rw [if_pos (by rw [shut_length]; omega)]
        · exact ih _ _ _ h
      · exact h

/-- Of the blocks that were there one alone is written. -/
structure Grow1 (g : Nat) (w w' : World) : Prop where
  os : w'.os = w.os
  tape : w'.tape = w.tape
  output : w'.output = w.output
  size : w.heap.size ≤ w'.heap.size
  block : ∀ k, k < w.heap.size → k ≠ g → w'.heap[k]? = w.heap[k]?

theorem Grow1.refl (g : Nat) (w : World) : Grow1 g w w := ⟨rfl, rfl, rfl, Nat.le_refl _, fun _ _ _ => rfl⟩
theorem Grow1.trans {g : Nat} {a b c : World} (h : Grow1 g a b) (k : Grow1 g b c) : Grow1 g a c :=
  ⟨k.os.trans h.os, k.tape.trans h.tape, k.output.trans h.output, Nat.le_trans h.size k.size, fun i hi hn => (k.block i (Nat.lt_of_lt_of_le hi h.size) hn).trans (h.block i hi hn)⟩
theorem Grow1.alloc {g : Nat} {a b : World} (h : Grow1 g a b) (o : Obj) : Grow1 g a (b.alloc o) :=
  h.trans ⟨rfl, rfl, rfl, by simp, fun k hk _ => by rw [heapAlloc, if_neg (by omega)]⟩
theorem Grow1.drew {g : Nat} {a b : World} (h : Grow1 g a b) : Grow1 g a b.drew := ⟨h.os, h.tape, h.output, h.size, h.block⟩
theorem Grow1.setCell {g : Nat} {a b : World} (h : Grow1 g a b) (o : Nat) (v : Value) : Grow1 g a (b.setCell ⟨g, o, none⟩ v) :=
  h.trans ⟨rfl, rfl, rfl, by rw [setCell_size]; exact Nat.le_refl _, fun k _ hn => setCell_far _ _ _ _ hn⟩

/-- A slice reads as items, wherever it begins. -/
def RowAt (w : World) (A : Option Addr) (c : Nat) (l : List Item) : Prop :=
  l.length ≤ c ∧ c ≤ maxLen ∧ ∀ (j : Nat) (x : Item), l[j]? = some x → ∃ g o, A = some ⟨g, o, none⟩ ∧ (∃ cur, w.heap[g]? = some (.cells cur 54 (0, 0))) ∧
    w.cell? ⟨g, o + j * 3, none⟩ = some (.int .i64 x.a) ∧ w.cell? ⟨g, o + j * 3 + 1, none⟩ = some (.int .i64 x.s) ∧ w.cell? ⟨g, o + j * 3 + 2, none⟩ = some (.int .i64 x.c)

theorem RowAt.of_owns {w : World} {A : Option Addr} {c : Nat} {l : List Item} (h : w.ownsRow 0 54 3 (.slice A l.length c) l.length (icells l)) : RowAt w A c l := by
  rcases rowOpen h with ⟨h1, h2⟩ | ⟨g, cap, cur, h1, hlc, hcm, hg, hcs, hc⟩
  · injection h1 with h1 h3 h4
    subst h2 h4
    exact ⟨by simp, by simp [maxLen], fun j x hx => by simp at hx⟩
  · injection h1 with h1 h3 h4
    subst h4
    exact ⟨hlc, hcm, fun j x hx => ⟨g, 0, h1, ⟨cur, hg⟩, by simpa using hc j x hx⟩⟩

theorem RowAt.keep {w w' : World} {A : Option Addr} {c : Nat} {l : List Item} (h : RowAt w A c l) (hk : ∀ k, k < w.heap.size → w'.heap[k]? = w.heap[k]?) : RowAt w' A c l := by
  refine ⟨h.1, h.2.1, fun j x hx => ?_⟩
  obtain ⟨g, o, hA, ⟨cur, hg⟩, h1, h2, h3⟩ := h.2.2 j x hx
  have e := hk g (lt_of_heap hg)
  exact ⟨g, o, hA, ⟨cur, e.trans hg⟩, (World.cell?_of_block (a := ⟨g, _, none⟩) e).trans h1, (World.cell?_of_block (a := ⟨g, _, none⟩) e).trans h2, (World.cell?_of_block (a := ⟨g, _, none⟩) e).trans h3⟩

theorem RowAt.drop {w : World} {A : Option Addr} {c m : Nat} {l : List Item} (h : RowAt w A c l) (hm : m ≤ l.length) : RowAt w (if c = m then A else A.map (·.add (m * 3))) (c - m) (l.drop m) := by
  have h1 := h.1
  have h2 := h.2.1
  refine ⟨by simp; omega, by omega, fun j x hx => ?_⟩
  rw [List.getElem?_drop] at hx
  have hl := (List.getElem?_eq_some_iff.1 hx).1
  obtain ⟨g, o, rfl, hg, k1, k2, k3⟩ := h.2.2 _ x hx
  refine ⟨g, o + m * 3, ?_, hg, ?_, ?_, ?_⟩
  · rw [if_neg (by omega)]
    simp only [Option.map_some, Addr.add]
    split
    · have : m = 0 := by omega
      subst this; simp
    · rfl
  · rw [show o + m * 3 + j * 3 = o + (m + j) * 3 by omega]; exact k1
  · rw [show o + m * 3 + j * 3 + 1 = o + (m + j) * 3 + 1 by omega]; exact k2
  · rw [show o + m * 3 + j * 3 + 2 = o + (m + j) * 3 + 2 by omega]; exact k3

theorem RowAt.take {w : World} {A : Option Addr} {c m : Nat} {l : List Item} (h : RowAt w A c l) (hm : m ≤ l.length) : RowAt w A c (l.take m) := by
  have h1 := h.1
  refine ⟨by simp; omega, h.2.1, fun j x hx => h.2.2 j x ?_⟩
  rw [List.getElem?_take] at hx
  split at hx
  · exact hx
  · cases hx

theorem TreeAt.grow {w w' : World} {own : Nat → Option Nat} {t g cap : Nat} {cs : Array Value} {M : Tr} (h : TreeAt w own t g cap cs M) (hb : ∀ k, k < w.heap.size → w'.heap[k]? = w.heap[k]?) : TreeAt w' own t g cap cs M :=
  h.same fun k _ hk => ⟨hb k hk, rfl⟩

theorem alloc_old (w : World) (o : Obj) (k : Nat) (h : k < w.heap.size) : (w.alloc o).heap[k]? = w.heap[k]? := by rw [heapAlloc, if_neg (by omega)]

set_option maxRecDepth 100000 in
set_option maxHeartbeats 1000000 in
theorem shut_walk (own : Nat → Option Nat) (t g cap qa qt : Nat) (f : Nat) : ∀ (M : Tr) (l : List Item) (A : Option Addr) (c : Nat) (w : World) (cs : Array Value), TreeAt w own t g cap cs M → M.length ≤ 64 → ShutOk f M l → l.length ≤ 200 →
    RowAt w A c l →
    w.heap[qa]? = some (.cells #[.func (.func 54) #[] #[.pointer (some ⟨qa, 0, none⟩), .pointer (some ⟨qt, 0, none⟩)]] 80 (0, 0)) → w.heap[qt]? = some (.cells #[.pointer (some ⟨t, 0, none⟩)] 23 (0, 0)) →
    Calls Try.prog 54 #[.slice A l.length c, .pointer (some ⟨qa, 0, none⟩), .pointer (some ⟨qt, 0, none⟩)] w fun e w' => e = .returned (.tuple #[]) ∧ Grow1 g w w' ∧
      ∃ cs', TreeAt w' own t g cap cs' (shut f M l) ∧ ∀ (i : Nat), (shut f M l)[i]? ≠ some none → cs'[i]? = cs[i]? := by
  induction f with
  | zero => intro M l A c w cs _ _ h; exact h.elim
  | succ f ih =>
    intro M l A c w cs hT hm hS hlen hrow hqa hqt
    obtain ⟨hlc, hcm, hcell⟩ := hrow
    have HI := Lib.hid ih
    have HC := Lib.hid hcell
    have HS := Lib.hid hS
    have H0 := Lib.hid (And.intro hT (And.intro hqa hqt))
    have hag : qa ≠ g := fun e => by rw [e, hT.row] at hqa; simp at hqa
    have htg : qt ≠ g := fun e => by rw [e, hT.row] at hqt; simp at hqt
    have hal := lt_of_heap hqa
    have htl := lt_of_heap hqt
    clear ih hT hcell hS hqa hqt
    unfold maxLen at hcm
    go_enter Try.func54, Try.ntmps54
    go_wp2_with fail
    go_loopw [5, 8] (fun p i wr => ∃ j : Nat, j ≤ l.length ∧ i = .int .i64 j ∧ Grow1 g w wr ∧ ∃ cs', TreeAt wr own t g cap cs' ((l.take j).foldl (shutStep f) M) ∧ ∀ (i : Nat), ((l.take j).foldl (shutStep f) M)[i]? ≠ some none → cs'[i]? = cs[i]?) (fun _ i _ => l.length - (intOf i).toNat)
    case atStart => exact ⟨0, Nat.zero_le _, rfl, Grow1.refl _ _, cs, H0.out.1, fun _ _ => rfl⟩
    case round =>
      obtain ⟨j, hj, rfl, hgr, cs', hT, hcc⟩ := hrel
      by_cases hlt : j < l.length
      · obtain ⟨x, hx⟩ : ∃ x, l[j]? = some x := ⟨_, List.getElem?_eq_getElem hlt⟩
        obtain ⟨g', o', rfl, ⟨cur, hcur⟩, k1, k2, k3⟩ := HC.out j x hx
        have hg' := lt_of_heap hcur
        have hgg : g' ≠ g := fun e => by rw [e, H0.out.1.row] at hcur; simp at hcur
        clear hcur
        have k1 := (World.cell?_of_block (a := ⟨g', o' + j * 3, none⟩) (hgr.block g' hg' hgg)).trans k1
        have k2 := (World.cell?_of_block (a := ⟨g', o' + j * 3 + 1, none⟩) (hgr.block g' hg' hgg)).trans k2
        have k3 := (World.cell?_of_block (a := ⟨g', o' + j * 3 + 2, none⟩) (hgr.block g' hg' hgg)).trans k3
        have hft := fold_take f M l j x hx
        have hSx := HS.out j x hx
        have hfl := fold_length f (l.take j) M
        have HX := Lib.hid (And.intro hx hft)
        clear hx hft
        by_cases hc0 : 0 ≤ x.c
        · obtain ⟨n, hn, hnl, hok⟩ := hSx hc0
          obtain ⟨v, hv, b, iv, rfl, hob, hbh, hil⟩ := hT.node _ _ hn
          obtain ⟨A2, c2, rfl⟩ := itemsLen hil
          have hql : x.c.toNat < M.length := by rw [← hfl]; exact (List.getElem?_eq_some_iff.1 hn).1
          have m0 : wr.cell? ⟨t, 0, none⟩ = some (.slice (some ⟨g, 0, none⟩) M.length cap) := by rw [← hfl]; simp [World.cell?, hT.top]
          have m1 : wr.cell? ⟨g, x.c.toNat, none⟩ = some (.pointer (some ⟨b, 0, none⟩)) := by rw [cell_of_row wr g _ cs' _ _ hT.row, hv]
          have m2 : wr.cell? ⟨b, 3, none⟩ = some (.slice A2 n.l.length c2) := (nodeOpen hbh).2.2.2.1
          have hqa : wr.heap[qa]? = some (.cells #[.func (.func 54) #[] #[.pointer (some ⟨qa, 0, none⟩), .pointer (some ⟨qt, 0, none⟩)]] 80 (0, 0)) := (hgr.block qa hal hag).trans H0.out.2.1
          have hqt : wr.heap[qt]? = some (.cells #[.pointer (some ⟨t, 0, none⟩)] 23 (0, 0)) := (hgr.block qt htl htg).trans H0.out.2.2
          have m3 : wr.cell? ⟨qa, 0, none⟩ = some (.func (.func 54) #[] #[.pointer (some ⟨qa, 0, none⟩), .pointer (some ⟨qt, 0, none⟩)]) := by simp [World.cell?, hqa]
          have m4 : wr.cell? ⟨qt, 0, none⟩ = some (.pointer (some ⟨t, 0, none⟩)) := by simp [World.cell?, hqt]
          have n0 := lt_of_heap hT.top
          have n1 := lt_of_heap hT.row
          have n2 := lt_of_heap hbh
          have n3 := lt_of_heap hqa
          have n4 := lt_of_heap hqt
          have htg2 : t ≠ g := fun e => by have := hT.ownT; rw [e, hT.ownG] at this; simp at this
          have hcl := hT.len
          have hcmm := hT.most
          have hcz := hT.size
          rw [hfl] at hcl
          have HCall : ∀ w2, (∀ k, k < wr.heap.size → w2.heap[k]? = wr.heap[k]?) → Calls Try.prog 54 #[.slice A2 n.l.length c2, .pointer (some ⟨qa, 0, none⟩), .pointer (some ⟨qt, 0, none⟩)] w2 fun e w' => e = .returned (.tuple #[]) ∧ Grow1 g w2 w' ∧
              ∃ cs'', TreeAt w' own t g cap cs'' (shut f ((l.take j).foldl (shutStep f) M) n.l) ∧ ∀ (i : Nat), (shut f ((l.take j).foldl (shutStep f) M) n.l)[i]? ≠ some none → cs''[i]? = cs'[i]? := fun w2 h2 =>
            HI.out _ n.l A2 c2 w2 cs' (hT.grow h2) (by rw [hfl]; exact hm) hok hnl ((RowAt.of_owns hil.1).keep h2) ((h2 _ n3).trans hqa) ((h2 _ n4).trans hqt)
          have HCall := Lib.hid HCall
          have HR := Lib.hid (And.intro hgr (And.intro hT hcc))
          have HN := Lib.hid hn
          have HC0 := Lib.hid hc0
          have HF := Lib.hid hfl
          have hx0 := hc0
          clear hgr hT hcc hSx hfl hn hok hv hbh hil hob hqa hqt
          generalize hq : x.c = q at *
          obtain ⟨y, rfl⟩ := Int.eq_ofNat_of_zero_le hx0
          rw [Int.toNat_natCast] at m1 hql
          have HQ := Lib.hid hq
          clear hq hx0 hc0
          generalize hML : M.length = ML at *
          have HML := Lib.hid hML
          clear hML
          generalize n.l.length = N at *
          unfold maxLen at hcmm
          go_wp2_with fail
          refine wp_region_still_tail 12 (by kernel_rfl) (by kernel_rfl) ?_
          simp only [List.take_succ_cons, List.take_zero, List.drop_succ_cons, List.drop_zero]
          change wpStill _ _ (World.drew _) (fun a' => wpList _ _ _ _ a' (World.drew _)) _ _
          repeat still_step
          refine wpStill_nil ?_
          go_wp2_with fail
          refine (HCall.out (World.drew (wr.alloc (.cells #[.int .i64 x.a, .int .i64 x.s, .int .i64 y] 54))) (fun k hk => alloc_old wr _ k hk)).mono ?_
          rintro e w3 ⟨rfl, hb3, cs3, hT3, hcc3⟩
          have hg3 : Grow1 g wr w3 := ((Grow1.refl g wr).alloc _).drew.trans hb3
          have s1 : w3.cell? ⟨qt, 0, none⟩ = some (.pointer (some ⟨t, 0, none⟩)) := (World.cell?_of_block (a := ⟨qt, 0, none⟩) (hg3.block qt n4 htg)).trans m4
          have s2 : w3.cell? ⟨t, 0, none⟩ = some (.slice (some ⟨g, 0, none⟩) ML cap) := (World.cell?_of_block (a := ⟨t, 0, none⟩) (hg3.block t n0 htg2)).trans m0
          have s3 : w3.cell? ⟨wr.heap.size, 2, none⟩ = some (.int .i64 y) := by
            refine (World.cell?_of_block (a := ⟨wr.heap.size, 2, none⟩) (hb3.block wr.heap.size (by simp) (by omega))).trans ?_
            show (wr.alloc _).cell? _ = _
            rw [World.cell?_alloc_at _ _ _ _ rfl]; rfl
          have hz3 := hT3.size
          have hl3 : (shut f ((l.take j).foldl (shutStep f) M) n.l).length = ML := by rw [shut_length]; exact HF.out
          have s4 : ∃ v, w3.cell? ⟨g, y, none⟩ = some v := by
            rw [cell_of_row w3 g _ _ _ _ hT3.row]
            exact ⟨_, Array.getElem?_eq_getElem (by omega)⟩
          obtain ⟨v4, s4⟩ := s4
          have s5 : w3.frozen? ⟨g, y, none⟩ = false := by simp [World.frozen?, hT3.row]
          have H3 := Lib.hid (And.intro hT3 (And.intro hcc3 (And.intro hg3 hl3)))
          clear hT3 hcc3 hb3 hg3 hl3 hz3 m0 m1 m2 m3 m4 n0 n2 n3 n4 HCall
          go_wp2_with fail
          refine wp_region_still_tail 7 (by kernel_rfl) (by kernel_rfl) ?_
          simp only [List.take_succ_cons, List.take_zero, List.drop_succ_cons, List.drop_zero]
          change wpStill _ _ (World.drew _) (fun a' => wpList _ _ _ _ a' (World.drew _)) _ _
          repeat still_step
          refine wpStill_nil ?_
          go_wp2
          go_roundw
          case rel =>
            have hT3 := H3.out.1
            have hy : y < (shut f ((l.take j).foldl (shutStep f) M) n.l).length := by rw [H3.out.2.2.2]; exact hql
            have hst : shutStep f ((l.take j).foldl (shutStep f) M) x = (shut f ((l.take j).foldl (shutStep f) M) n.l).set y none := by
              rw [shutStep, HQ.out, if_pos (by omega), Int.toNat_natCast]
              have hn := HN.out
              rw [Int.toNat_natCast] at hn
              rw [itemsOf, hn]
            refine ⟨j + 1, by omega, by go_num, HR.out.1.trans (H3.out.2.2.1.setCell y (.pointer none)).drew, cs3.setIfInBounds y (.pointer none), ?_, ?_⟩
            · rw [HX.out.2, hst]
              exact hT3.setPtr (o := none) hy (fun k _ h2 _ => setCell_far w3 ⟨g, y, none⟩ (.pointer none) k h2) (fun _ _ => rfl) (setCell_at w3 g y _ _ (.pointer none) hT3.row) rfl
            · intro i hi
              rw [HX.out.2, hst] at hi
              by_cases e : i = y
              · subst e
                rw [List.getElem?_set_self hy] at hi
                exact absurd rfl hi
              · rw [List.getElem?_set_ne (fun e' => e e'.symm)] at hi
                rw [Array.getElem?_setIfInBounds, if_neg (fun e' => e e'.symm), H3.out.2.1 i hi]
                exact HR.out.2.2 i (fun e' => hi (shut_none f _ _ i e'))
          case measure => simp [intOf]; omega
        · have HR := Lib.hid (And.intro hgr (And.intro hT hcc))
          have HC0 := Lib.hid hc0
          clear hgr hT hcc hSx hfl
          go_wp2
          go_roundw
          case rel => exact ⟨j + 1, by omega, by go_num, HR.out.1.alloc _, cs', by rw [HX.out.2, shutStep, if_neg HC0.out]; exact HR.out.2.1.grow fun k hk => alloc_old _ _ _ hk, by rw [HX.out.2, shutStep, if_neg HC0.out]; exact HR.out.2.2⟩
          case measure => simp [intOf]; omega
      · obtain rfl : j = l.length := by omega
        have HR := Lib.hid (And.intro hgr (And.intro hT hcc))
        clear hgr hT hcc
        go_wp2
        go_end0
        exact ⟨rfl, HR.out.1, cs', by rw [shut_fold, ← List.take_length (l := l)]; exact HR.out.2.1, by rw [shut_fold]; have := HR.out.2.2; rw [List.take_length] at this; exact this⟩
end Ne
end Go.Proofs.Ytllmddhahpegmaa
