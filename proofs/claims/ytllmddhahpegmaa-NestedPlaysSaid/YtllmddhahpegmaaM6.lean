/- The walk of shut, with what it cuts off behind. The walk of Rewind. The walk of End. -/
import Derived.Test.YtllmddhahpegmaaM5
import Derived.Test.YtllmddhahpegmaaM4
import Derived.Deep.LoopGhost
import Derived.Laws.EntriesVeiled
namespace Go.Proofs.Ytllmddhahpegmaa
open Go.RowKit
namespace Ne

set_option maxRecDepth 100000 in
set_option maxHeartbeats 1000000 in
theorem shut_ok (w : World) (own : Nat → Option Nat) (t g cap f : Nat) (cs : Array Value) (M : Tr) (l : List Item) (A : Option Addr) (c : Nat) (hT : TreeAt w own t g cap cs M) (hm : M.length ≤ 64) (hS : ShutOk f M l) (hlen : l.length ≤ 200)
    (hrow : RowAt w A c l) (hroot : ∃ r, (shut f M l)[0]? = some (some r)) :
    Calls Try.prog 40 #[.pointer (some ⟨t, 0, none⟩), .slice A l.length c] w fun e w' => e = .returned (.tuple #[]) ∧
      (∃ cs', TreeAt w' own t g cap cs' (trim (shut f M l)) ∧ ∀ (i : Nat), (shut f M l)[i]? ≠ some none → cs'[i]? = cs[i]?) ∧ w'.os = w.os ∧ w'.tape = w.tape ∧ w'.output = w.output ∧ w.heap.size ≤ w'.heap.size ∧ ∀ k, k < w.heap.size → k ≠ g → k ≠ t → w'.heap[k]? = w.heap[k]? := by
  have hgl := lt_of_heap hT.row
  have htl := lt_of_heap hT.top
  have htg : t ≠ g := fun e => by have := hT.ownT; rw [e, hT.ownG] at this; simp at this
  have HW := fun (w2 : World) (h1 : ∀ k, k < w.heap.size → w2.heap[k]? = w.heap[k]?) (h2 : w2.heap[w.heap.size + 1]? = some (.cells #[.func (.func 54) #[] #[.pointer (some ⟨w.heap.size + 1, 0, none⟩), .pointer (some ⟨w.heap.size, 0, none⟩)]] 80 (0, 0)))
    (h3 : w2.heap[w.heap.size]? = some (.cells #[.pointer (some ⟨t, 0, none⟩)] 23 (0, 0))) =>
    shut_walk own t g cap (w.heap.size + 1) w.heap.size f M l A c w2 cs (hT.grow h1) hm hS hlen (hrow.keep h1) h2 h3
  have HW := Lib.hid HW
  have HR := Lib.hid hroot
  have hML : (shut f M l).length = M.length := shut_length f M l
  clear hrow hS hT hroot
  generalize shut f M l = M3 at *
  rw [← hML] at hm
  clear hML
  go_enter Try.func40, Try.ntmps40
  go_wp2_with fail
  refine (HW.out _ (fun k hk => by rw [heapAlloc, if_neg (by simp; omega), heapAlloc, if_neg (by omega)]) (by rw [heapAlloc, if_pos (by simp)]) (by rw [heapAlloc, if_neg (by simp), heapAlloc, if_pos rfl])).mono ?_
  rintro e w3 ⟨rfl, hb3, cs3, hT3, hcc3⟩
  have hq3 : w3.cell? ⟨w.heap.size, 0, none⟩ = some (.pointer (some ⟨t, 0, none⟩)) := by
    refine (World.cell?_of_block (a := ⟨w.heap.size, 0, none⟩) (hb3.block w.heap.size (by simp; omega) (by omega))).trans ?_
    have : ((w.alloc (.cells #[.pointer (some ⟨t, 0, none⟩)] 23)).alloc (.cells #[.func (.func 54) #[] #[.pointer (some ⟨w.heap.size + 1, 0, none⟩), .pointer (some ⟨w.heap.size, 0, none⟩)]] 80)).heap[w.heap.size]? = some (.cells #[.pointer (some ⟨t, 0, none⟩)] 23) := by
      rw [heapAlloc, if_neg (by simp), heapAlloc, if_pos rfl]
    simp [World.cell?, this]
  have hold : ∀ k, k < w.heap.size → k ≠ g → w3.heap[k]? = w.heap[k]? := fun k hk hn => by
    rw [hb3.block k (by simp; omega) hn, heapAlloc, if_neg (by simp; omega), heapAlloc, if_neg (by omega)]
  have hsz3 : w.heap.size + 2 ≤ w3.heap.size := by have := hb3.size; simp at this; omega
  have H3 := Lib.hid (And.intro hT3 (And.intro hcc3 (And.intro hb3 hold)))
  have hos : w3.os = w.os ∧ w3.tape = w.tape ∧ w3.output = w.output := ⟨hb3.os, hb3.tape, hb3.output⟩
  have HOS := Lib.hid hos
  clear HW hT3 hcc3 hb3 hold hos
  go_wp2_with fail
  go_loopg [] (M3.length + 1) (fun k wr => ∃ m : Nat, m < k ∧ 0 < m ∧ m ≤ M3.length ∧ (∀ j, m ≤ j → j < M3.length → M3[j]? = some none) ∧ TreeAt wr own t g cap cs3 (M3.take m) ∧ wr.heap.size = w3.heap.size ∧ wr.os = w3.os ∧ wr.tape = w3.tape ∧ wr.output = w3.output ∧ ∀ k, k ≠ t → wr.heap[k]? = w3.heap[k]?)
  case atStart =>
    obtain ⟨r, hr⟩ := HR.out
    have := (List.getElem?_eq_some_iff.1 hr).1
    exact ⟨M3.length, by omega, by omega, Nat.le_refl _, fun j h1 h2 => by omega, by rw [List.take_length]; exact H3.out.1, rfl, rfl, rfl, rfl, fun _ _ => rfl⟩
  case round =>
    obtain ⟨m, hmk, hm0, hml, hnone, hT, hrs, hro, hrt, hrout, hrb⟩ := hrel
    obtain ⟨j, rfl⟩ : ∃ j, m = j + 1 := ⟨m - 1, by omega⟩
    have hlen : (M3.take (j + 1)).length = j + 1 := by simp; omega
    have r1 : wr.cell? ⟨w.heap.size, 0, none⟩ = some (.pointer (some ⟨t, 0, none⟩)) := (World.cell?_of_block (a := ⟨w.heap.size, 0, none⟩) (hrb w.heap.size (by omega))).trans hq3
    have r2 : wr.cell? ⟨t, 0, none⟩ = some (.slice (some ⟨g, 0, none⟩) (j + 1) cap) := by
      have := hT.top
      rw [hlen] at this
      simp [World.cell?, this]
    have rf : wr.frozen? ⟨t, 0, none⟩ = false := by simp [World.frozen?, hT.top]
    have hcap := hT.len
    have hmost := hT.most
    rw [hlen] at hcap
    unfold maxLen at hmost
    obtain ⟨o, ho⟩ : ∃ o, M3[j]? = some o := ⟨_, List.getElem?_eq_getElem (by omega)⟩
    obtain ⟨v, hv, hn⟩ := hT.node j o (by rw [List.getElem?_take, if_pos (by omega)]; exact ho)
    have r3 : wr.cell? ⟨g, j, none⟩ = some v := by rw [cell_of_row wr g _ cs3 _ _ hT.row, hv]
    have HT := Lib.hid (And.intro hT (And.intro hrs (And.intro hro (And.intro hrt (And.intro hrout (And.intro hrb hnone))))))
    have HO := Lib.hid ho
    clear hT hrs hro hrt hrout hrb hv ho hnone hlen
    cases o with
    | none =>
      have hn : v = .pointer none := hn
      subst hn
      go_wp2_with fail
      go_quiet (fail)
      go_wp2_with fail
      have w1 : IntKind.i64.wrap (j : Int) = j := IntWalk.i64_in _ (by omega)
      have b1 : (0 : Int) ≤ (j : Int) := by omega
      have b2 : (j : Int) ≤ (cap : Int) := by omega
      refine wp_region_still_tail 14 (by kernel_rfl) (by kernel_rfl) ?_
      simp only [List.take_succ_cons, List.take_zero, List.drop_succ_cons, List.drop_zero]
      change wpStill _ _ (World.drew _) (fun a' => wpList _ _ _ _ a' (World.drew _)) _ _
      repeat still_step
      refine wpStill_nil ?_
      go_wp2
      obtain ⟨hT, hrs, hro, hrt, hrout, hrb, hnone⟩ := HT.out
      have hj0 : 0 < j := by
        rcases Nat.eq_zero_or_pos j with e | e
        · subst e
          obtain ⟨r, hr⟩ := HR.out
          rw [HO.out] at hr
          cases hr
        · exact e
      go_roundg (gk - 1)
      case measure => omega
      case rel =>
        refine ⟨j, by omega, hj0, by omega, fun i h1 h2 => ?_, ?_, (setCell_size _ _ _).trans hrs, hro, hrt, hrout, fun k hk => (setCell_far _ _ _ _ hk).trans (hrb k hk)⟩
        · by_cases e : i = j
          · rw [e]; exact HO.out
          · exact hnone i (by omega) h2
        · have := hT.cut (w' := wr.setCell ⟨t, 0, none⟩ (.slice (some ⟨g, 0, none⟩) j cap)) (m := j) (by simp; omega) (fun k h1 _ => setCell_far _ _ _ _ h1) (by rw [setCell_at _ _ _ _ _ _ hT.top]; rfl)
          rw [List.take_take, Nat.min_eq_left (by omega)] at this
          exact this.grow fun _ _ => rfl
    | some n =>
      obtain ⟨b, iv, rfl, _⟩ := hn
      go_wp2_with fail
      go_quiet (fail)
      go_wp2
      go_end0
      obtain ⟨hT, hrs, hro, hrt, hrout, hrb, hnone⟩ := HT.out
      have ht := trim_take M3 (j + 1) hml hnone ⟨by omega, by rw [show j + 1 - 1 = j by omega, HO.out]; simp⟩
      refine ⟨rfl, ⟨cs3, by rw [ht]; exact hT.grow fun _ _ => rfl, H3.out.2.1⟩, hro.trans HOS.out.1, hrt.trans HOS.out.2.1, hrout.trans HOS.out.2.2, ?_, fun k hk h1 h2 => ?_⟩
      · show w.heap.size ≤ wr.heap.size
        omega
      · exact (hrb k h2).trans (H3.out.2.2.2 k hk h1)
end Ne
end Go.Proofs.Ytllmddhahpegmaa
namespace Go.Proofs.Ytllmddhahpegmaa
open Go.RowKit
namespace Ne

theorem rewind_err (w : World) (t : Nat) (i m : Int) 
   (hc : Calls Try.prog 37 #[.pointer (some ⟨t, 0, none⟩), .int .i64 i] w fun e w' => e = .returned (.tuple #[.pointer none, .int .i64 4]) ∧ w = w') :
    Calls Try.prog 20 #[.pointer (some ⟨t, 0, none⟩), .int .i64 i, .int .i64 m] w fun e w' => e = .returned (.int .i64 4) ∧ w' = w := by
  have H := Lib.hid hc; clear hc
  go_enter Try.func20, Try.ntmps20
  go_wp2_with (first | (go_at_call 37; refine H.out.mono ?_; rintro e w' ⟨rfl, rfl⟩))
  go_ret
  exact ⟨rfl, rfl⟩

theorem rewind_out (w : World) (t : Nat) (i m : Int) (b : Nat) (A : Option Addr) (L c : Nat) (hL : L ≤ 200) (h3 : w.cell? ⟨b, 3, none⟩ = some (.slice A L c)) (hm : m < 0 ∨ L < m)
   (hc : Calls Try.prog 37 #[.pointer (some ⟨t, 0, none⟩), .int .i64 i] w fun e w' => e = .returned (.tuple #[.pointer (some ⟨b, 0, none⟩), .int .i64 0]) ∧ w = w') :
    Calls Try.prog 20 #[.pointer (some ⟨t, 0, none⟩), .int .i64 i, .int .i64 m] w fun e w' => e = .returned (.int .i64 7) ∧ w' = w := by
  have H := Lib.hid hc; clear hc
  rcases hm with hm | hm
  all_goals
    go_enter Try.func20, Try.ntmps20
    go_wp2_with (first | (go_at_call 37; refine H.out.mono ?_; rintro e w' ⟨rfl, rfl⟩))
    go_ret
    exact ⟨rfl, rfl⟩

set_option maxRecDepth 100000 in
set_option maxHeartbeats 1000000 in
theorem rewind_ok (w : World) (own : Nat → Option Nat) (t g cap F : Nat) (cs : Array Value) (M : Tr) (i : Nat) (m : Nat) (n : Node) (b : Nat) (A : Option Addr) (c : Nat) (h : TreeAt w own t g cap cs M) (hml : M.length ≤ 64)
    (hi : M[i]? = some (some n)) (hcs : cs[i]? = some (.pointer (some ⟨b, 0, none⟩))) (hb : w.heap[b]? = some (NodeCells n (.slice A n.l.length c))) (hl : ItemsAt w own i (.slice A n.l.length c) n.l) (hlen : n.l.length ≤ 200) (hm : m ≤ n.l.length)
    (hS : ShutOk F M (n.l.drop m)) (hroot : ∃ r, (shut F M (n.l.drop m))[0]? = some (some r)) (hopen : (shut F M (n.l.drop m))[i]? = some (some n)) (hopen2 : (trim (shut F M (n.l.drop m)))[i]? = some (some n))
    (hc : Calls Try.prog 37 #[.pointer (some ⟨t, 0, none⟩), .int .i64 i] w fun e w' => e = .returned (.tuple #[.pointer (some ⟨b, 0, none⟩), .int .i64 0]) ∧ w = w') :
    Calls Try.prog 20 #[.pointer (some ⟨t, 0, none⟩), .int .i64 i, .int .i64 m] w (Does w own t ((trim (shut F M (n.l.drop m))).set i (some { n with l := tidy (n.l.take m) })) (.int .i64 0)) := by
  have H := Lib.hid hc
  have hR := RowAt.of_owns hl.1
  have hcap := hR.1
  have hcm := hR.2.1
  unfold maxLen at hcm
  have hdl : (n.l.drop m).length = n.l.length - m := by simp
  have HSh := shut_ok w own t g cap F cs M (n.l.drop m) _ _ h hml hS (by omega) (hR.drop hm) hroot
  rw [hdl] at HSh
  generalize hA' : (if c = m then A else A.map (·.add (m * 3))) = A' at HSh
  have HShh := Lib.hid HSh
  obtain ⟨c0, c1, c2, c3, c4, cf⟩ := nodeOpen hb
  have hiM : i < M.length := (List.getElem?_eq_some_iff.1 hi).1
  have hob := (nodeOwn h hi hcs).1
  have HH := Lib.hid (And.intro h (And.intro hcs (And.intro hopen (And.intro hopen2 hob))))
  clear hc hR hdl h hi hcs hb hl hS hroot hopen hopen2 HSh hob
  generalize hL : n.l.length = L at *
  have HL := Lib.hid hL
  clear hL
  go_enter Try.func20, Try.ntmps20
  go_wp2_with (first | (go_at_call 37; refine H.out.mono ?_; rintro e w' ⟨rfl, rfl⟩) | (go_at_call 40; fail))
  clear hA'
  refine HShh.out.mono ?_
  rintro e w4 ⟨rfl, ⟨cs4, hT4, hcc4⟩, hos4, htp4, hou4, hsz4, hold4⟩
  have hc4 : cs4[i]? = some (.pointer (some ⟨b, 0, none⟩)) := by rw [hcc4 i (by rw [HH.out.2.2.1]; simp)]; exact HH.out.2.1
  obtain ⟨hob4, iv4, hb4, hl4⟩ := nodeOwn hT4 HH.out.2.2.2.1 hc4
  obtain ⟨A4, c5, rfl⟩ := itemsLen hl4
  obtain ⟨d0, d1, d2, d3, d4, df⟩ := nodeOpen hb4
  have df3 := df 3
  have hR4 := RowAt.of_owns hl4.1
  have hcap4 := hR4.1
  have hcm4 := hR4.2.1
  rw [HL.out] at d3 hcap4
  unfold maxLen at hcm4
  have hne4 : ∀ k, (Value.slice A4 k c5).ownBlock ≠ some b := fun k e => by
    have : (Value.slice A4 n.l.length c5).ownBlock = some b := by cases A4 <;> simp [Value.ownBlock] at e ⊢; exact e
    have := hl4.2 b this
    rw [hob4] at this; simp at this
  have htk : (n.l.take m).length = m := by rw [List.length_take, HL.out]; omega
  have hrowm : w4.ownsRow 0 54 3 (.slice A4 m c5) m (icells (n.l.take m)) := by have := row_prefix hl4.1 (m := m) (by rw [HL.out]; exact hm); rw [htk] at this; exact this
  have HTd := fun (w5 : World) (h1 : Only b w4 w5) (h2 : w5.heap[b]? = some (NodeCells n (.slice A4 m c5))) =>
    tidy_ok w5 b { n with l := n.l.take m } A4 c5 (by rw [htk]; exact h2) (by rw [htk]; exact row_same hrowm fun k hk => h1.block k (fun e => hne4 m (by rw [hk, e]))) (hne4 _) (by rw [htk]; omega)
  have HTd := Lib.hid HTd
  have H4 := Lib.hid (And.intro hT4 (And.intro hc4 (And.intro hl4 (And.intro hb4 (And.intro hos4 (And.intro htp4 (And.intro hou4 (And.intro hsz4 hold4))))))))
  clear hT4 hcc4 hl4 hb4 hos4 htp4 hou4 hold4 hR4 df d0 d1 d2 d4 HShh
  go_wp2_with (go_at_call 41; fail)
  refine (HTd.out _ ((Only.refl b w4).setCell _ _) (by rw [setCell_at _ _ _ _ _ _ H4.out.2.2.2.1]; rfl)).mono ?_
  rintro e w6 ⟨rfl, hb6, ho6, k, hk, htd⟩
  go_wp2
  go_ret
  obtain ⟨hT4, hc4, hl4, hb4, hos4, htp4, hou4, hold4⟩ := H4.out
  have ho46 : Only b w4 w6 := ⟨ho6.os, ho6.tape, ho6.output, ho6.size.trans (setCell_size _ _ _), fun k hk => (ho6.block k hk).trans (setCell_far _ _ _ _ hk)⟩
  have hkm : k ≤ m := by rw [htk] at hk; exact hk
  have htd' : tidy (n.l.take m) = n.l.take k := by rw [htd, List.take_take, Nat.min_eq_left hkm]
  have htl : (tidy (n.l.take m)).length = k := by rw [htd', List.length_take, HL.out]; omega
  have hrowk : w4.ownsRow 0 54 3 (.slice A4 k c5) k (icells (n.l.take k)) := by
    have := row_prefix hl4.1 (m := k) (by rw [HL.out]; omega)
    rw [← htd', htl] at this
    rw [← htd']; exact this
  refine ⟨rfl, own, ⟨g, cap, cs4, ?_⟩, ?_⟩
  · refine hT4.setNode (n' := { n with l := tidy (n.l.take m) }) (iv := .slice A4 k c5) HH.out.2.2.2.1 hc4 (fun k' h1 h2 h3 h4 => ho46.block k' (fun e => h2 (by rw [e]; exact hob4))) (fun _ _ => rfl) ?_ ⟨?_, ?_⟩
    · rw [hb6, htl]; rfl
    · show w6.ownsRow 0 54 3 (.slice A4 k c5) (tidy (n.l.take m)).length (icells (tidy (n.l.take m)))
      rw [htl, htd']
      exact row_same hrowk fun g' hg' => ho46.block g' (fun e => hne4 k (by rw [hg', e]))
    · intro g' hg'
      refine hl4.2 g' ?_
      cases A4 <;> simp [Value.ownBlock] at hg' ⊢
      exact hg'
  · have hg1 : own g = some 1 := hT4.ownG
    have ht1 : own t = some 0 := hT4.ownT
    refine ⟨ho46.os.trans hos4, ho46.tape.trans htp4, ho46.output.trans hou4, by rw [ho46.size]; exact hsz4, fun k' h1 h2 => ?_, fun _ _ => rfl, fun _ h => .inl h⟩
    rw [ho46.block k' (fun e => by rw [e, hob4] at h2; cases h2)]
    exact hold4.2 k' h1 (fun e => by rw [e, hg1] at h2; cases h2) (fun e => by rw [e, ht1] at h2; cases h2)
end Ne
end Go.Proofs.Ytllmddhahpegmaa
namespace Go.Proofs.Ytllmddhahpegmaa
open Go.RowKit
namespace Ne


theorem icells_set (l : List Item) (j : Nat) (x : Item) (h : l[j]? = some x) : (icells l).set (j * 3 + 2) (.int .i64 (-2)) = icells (l.set j (asHole x)) := by
  induction l generalizing j with
  | nil => simp at h
  | cons y l ih =>
    cases j with
    | zero =>
      simp at h; subst h
      rfl
    | succ j =>
      have h' : l[j]? = some x := by simpa using h
      have e : icells (y :: l) = Item.cells y ++ icells l := rfl
      have hc : (Item.cells y).length = 3 := rfl
      rw [e, List.set_append_right _ _ (by omega), show (j + 1) * 3 + 2 - (Item.cells y).length = j * 3 + 2 by omega, ih j h']
      rfl

theorem row_set {w : World} {g c j : Nat} {l : List Item} {x : Item} (h : w.ownsRow 0 54 3 (.slice (some ⟨g, 0, none⟩) l.length c) l.length (icells l)) (hx : l[j]? = some x) :
    (w.setCell ⟨g, j * 3 + 2, none⟩ (.int .i64 (-2))).ownsRow 0 54 3 (.slice (some ⟨g, 0, none⟩) l.length c) (l.set j (asHole x)).length (icells (l.set j (asHole x))) := by
  rw [List.length_set]
  refine ⟨by rw [icells_length, List.length_set], ?_⟩
  rcases h.2 with ⟨h1, h2⟩ | ⟨g', cap, cur, h1, hb, hg, hlc, hcm, hcs, htake⟩
  · cases h1
  · injection h1 with h1 h3 h4
    injection h1 with h1
    injection h1 with h1
    subst h1 h4
    refine .inr ⟨g, _, _, rfl, hb, setCell_at _ _ _ _ _ _ hg, hlc, hcm, by simpa using hcs, ?_⟩
    rw [Array.toList_setIfInBounds, List.take_set, htake, icells_set l j x hx]

theorem end_err (w : World) (t : Nat) (i : Int)
   (_hc : Calls Try.prog 37 #[.pointer (some ⟨t, 0, none⟩), .int .i64 i] w fun e w' => e = .returned (.tuple #[.pointer none, .int .i64 4]) ∧ w = w') (hc' : ∀ o, Calls Try.prog 37 #[.pointer (some ⟨t, 0, none⟩), .int .i64 i] (w.alloc o) fun e w' => e = .returned (.tuple #[.pointer none, .int .i64 4]) ∧ w.alloc o = w') :
    Calls Try.prog 18 #[.pointer (some ⟨t, 0, none⟩), .int .i64 i] w fun e w' => e = .returned (.int .i64 4) ∧ Below w.heap.size w w' := by
  have H := fun o => Lib.hid (hc' o); clear _hc hc'
  go_enter Try.func18, Try.ntmps18
  go_wp2_with (first | (go_at_call 37; refine (H _).out.mono ?_; rintro e w' ⟨rfl, rfl⟩))
  go_ret
  exact ⟨rfl, (Below.refl _ _).alloc (Nat.le_refl _) _⟩

theorem end_root (w : World) (t : Nat) (b : Nat) (hc' : ∀ o, Calls Try.prog 37 #[.pointer (some ⟨t, 0, none⟩), .int .i64 0] (w.alloc o) fun e w' => e = .returned (.tuple #[.pointer (some ⟨b, 0, none⟩), .int .i64 0]) ∧ w.alloc o = w') :
    Calls Try.prog 18 #[.pointer (some ⟨t, 0, none⟩), .int .i64 0] w fun e w' => e = .returned (.int .i64 2) ∧ Below w.heap.size w w' := by
  have H := fun o => Lib.hid (hc' o); clear hc'
  go_enter Try.func18, Try.ntmps18
  go_wp2_with (first | (go_at_call 37; refine (H _).out.mono ?_; rintro e w' ⟨rfl, rfl⟩))
  go_ret
  exact ⟨rfl, (Below.refl _ _).alloc (Nat.le_refl _) _⟩

set_option maxRecDepth 100000 in
set_option maxHeartbeats 1000000 in
theorem end_ok' (w : World) (own : Nat → Option Nat) (t g cap F : Nat) (cs : Array Value) (M : Tr) (i : Nat) (p : Nat) (j : Nat) (x : Item) (n q : Node) (b : Nat) (iv : Value) (h : TreeAt w own t g cap cs M) (hml : M.length ≤ 64) (hi0 : i ≠ 0)
    (_hcs : cs[i]? = some (.pointer (some ⟨b, 0, none⟩))) (hb : w.heap[b]? = some (NodeCells n iv)) (hnp : n.p = p) (hq : M[p]? = some (some q)) (hql : q.l.length ≤ 200) (hj : fidx (fun y => y.c == (i : Int)) q.l = j) (hx : q.l[j]? = some x)
    (hS : ShutOk F M [x]) (hroot : ∃ r, (shut F M [x])[0]? = some (some r)) (hopen : (shut F M [x])[p]? = some (some q)) (hopen2 : (trim (shut F M [x]))[p]? = some (some q))
    (hc : ∀ o, Calls Try.prog 37 #[.pointer (some ⟨t, 0, none⟩), .int .i64 i] (w.alloc o) fun e w' => e = .returned (.tuple #[.pointer (some ⟨b, 0, none⟩), .int .i64 0]) ∧ w.alloc o = w') :
    Calls Try.prog 18 #[.pointer (some ⟨t, 0, none⟩), .int .i64 i] w (Does w own t ((trim (shut F M [x])).set p (some { q with l := tidy (q.l.set j (asHole x)) })) (.int .i64 0)) := by
  have H := fun o => Lib.hid (hc o)
  obtain ⟨c0, c1, c2, c3, c4, cf⟩ := nodeOpen hb
  rw [hnp] at c0
  obtain ⟨v, hv, b2, iv2, rfl, hob2, hb2, hl2⟩ := h.node _ _ hq
  obtain ⟨A2, c5, rfl⟩ := itemsLen hl2
  obtain ⟨e0, e1, e2, e3, e4, ef⟩ := nodeOpen hb2
  have hpM : p < M.length := (List.getElem?_eq_some_iff.1 hq).1
  have hjq : j < q.l.length := (List.getElem?_eq_some_iff.1 hx).1
  have hT1 : w.cell? ⟨t, 0, none⟩ = some (.slice (some ⟨g, 0, none⟩) M.length cap) := by simp [World.cell?, h.top]
  have hP1 : w.cell? ⟨g, p, none⟩ = some (.pointer (some ⟨b2, 0, none⟩)) := by rw [cell_of_row w g _ cs _ _ h.row, hv]
  have l1 := lt_of_heap h.top
  have l2 := lt_of_heap h.row
  have l3 := lt_of_heap hb
  have l4 := lt_of_heap hb2
  have hcl := h.len
  have hcm := h.most
  unfold maxLen at hcm
  have hR := RowAt.of_owns hl2.1
  have hRc := hR.1
  have hRm := hR.2.1
  unfold maxLen at hRm
  have HIF := fun (w2 : World) (h2 : Below w.heap.size w w2) (hq2 : w2.cell? ⟨w.heap.size, 0, none⟩ = some (.int .i64 i)) =>
    Lib.hid (indexFunc_39 (.pointer (some ⟨w.heap.size, 0, none⟩)) (fun y => y.c == (i : Int)) q.l A2 c5 w2 hql (row_same hl2.1 fun k hk => h2.block k (hl2.1.lt k hk).2) (fun y _ w3 h3 => isChild_ok w3 w.heap.size y i ((h3.cell (p := ⟨w.heap.size, 0, none⟩) (World.block_lt_of_cell? w2 _ hq2)).trans hq2)))
  rw [hj] at HIF
  have hdt : (q.l.drop j).take 1 = [x] := by
    obtain ⟨hl, rfl⟩ := List.getElem?_eq_some_iff.1 hx
    rw [List.drop_eq_getElem_cons hl]; rfl
  have hRx : RowAt w (if c5 = j then A2 else A2.map (·.add (j * 3))) (c5 - j) [x] := by
    have := (hR.drop (m := j) (by omega)).take (m := 1) (by simp; omega)
    rw [hdt] at this; exact this
  generalize hA' : (if c5 = j then A2 else A2.map (·.add (j * 3))) = A' at hRx
  have HSh := fun (w2 : World) (h2 : Below w.heap.size w w2) => Lib.hid (shut_ok w2 own t g cap F cs M [x] A' (c5 - j) (h.grow h2.block) hml hS (by simp) (hRx.keep h2.block) hroot)
  have HH := Lib.hid (And.intro h (And.intro hv (And.intro hopen (And.intro hopen2 (And.intro hob2 (And.intro hl2 hx))))))
  have hi0' : ((i : Int) == 0) = false := by rw [beq_eq_false_iff_ne]; omega
  clear hc h _hcs hb hnp hq hj hS hroot hopen hopen2 hv hob2 hb2 hl2 hR hdt hRx hx hi0 e0 e1 e2 e4 ef c1 c2 c3 c4 cf
  generalize hL : q.l.length = L at *
  have HL := Lib.hid hL
  clear hL
  go_enter Try.func18, Try.ntmps18
  go_wp2_with (first | (go_at_call 37; refine (H _).out.mono ?_; rintro e w' ⟨rfl, rfl⟩))
  go_quiet (fail)
  go_wp2_with (go_at_call 34; fail)
  have hB0 : Below w.heap.size w ((w.alloc (.cells #[.int .i64 i] 3)).drewN nq) := below_drewN ((Below.refl _ _).alloc (Nat.le_refl _) _) _
  have hbox : ((w.alloc (.cells #[.int .i64 i] 3)).drewN nq).cell? ⟨w.heap.size, 0, none⟩ = some (.int .i64 i) := by
    show (w.alloc _).cell? _ = _
    rw [World.cell?_alloc_at _ _ _ _ rfl]; rfl
  refine ((HIF _ hB0 hbox).out).mono ?_
  generalize ((w.alloc (.cells #[.int .i64 i] 3)).drewN nq) = W1 at *
  rintro e w3 ⟨rfl, hb3⟩
  have hB3 : Below w.heap.size w w3 := hB0.trans (hb3.mono hB0.size)
  have f1 : w3.cell? ⟨b2, 3, none⟩ = some (.slice A2 L c5) := (hB3.cell (p := ⟨b2, 3, none⟩) l4).trans e3
  have f2 : (0 : Int) ≤ (j : Int) := by omega
  clear H HIF hb3 hbox hB0
  have HB3 := Lib.hid hB3
  clear hB3
  go_wp2_with (go_at_call 40; fail)
  clear hA'
  refine ((HSh _ HB3.out).out).mono ?_
  rintro e w4 ⟨rfl, ⟨cs4, hT4, hcc4⟩, hos4, htp4, hou4, hsz4, hold4⟩
  have hp4 : cs4[p]? = some (.pointer (some ⟨b2, 0, none⟩)) := by rw [hcc4 p (by rw [HH.out.2.2.1]; simp)]; exact HH.out.2.1
  obtain ⟨hob4, iv4, hb4, hl4⟩ := nodeOwn hT4 HH.out.2.2.2.1 hp4
  obtain ⟨A4, c6, rfl⟩ := itemsLen hl4
  have hx := HH.out.2.2.2.2.2.2
  obtain ⟨g4, cap4, hv4, _, hg4l⟩ := hl4.1.form (by rw [HL.out]; omega)
  injection hv4 with hA4 _ hc64
  subst hA4
  obtain ⟨d0, d1, d2, d3, d4, df⟩ := nodeOpen hb4
  obtain ⟨hcap4, hcm4, hcell4⟩ := rowCells hl4.1
  obtain ⟨g5, hg5, _, _, _, k3⟩ := hcell4 j x hx
  injection hg5 with hg5
  injection hg5 with hg5
  subst hg5
  rw [HL.out] at d3 hcap4
  unfold maxLen at hcm4
  have hne4 : g4 ≠ b2 := fun e => by
    have := hl4.2 g4 rfl
    rw [e, hob4] at this; simp at this
  have hgf : w4.frozen? ⟨g4, j * 3 + 2, none⟩ = false := by
    rcases hl4.1.2 with ⟨h1, _⟩ | ⟨g', cap', cur, h1, _, hg, _⟩
    · cases h1
    · injection h1 with h1
      injection h1 with h1
      injection h1 with h1
      subst h1
      simp [World.frozen?, hg]
  have H4 := Lib.hid (And.intro hT4 (And.intro hp4 (And.intro hl4 (And.intro hb4 (And.intro hos4 (And.intro htp4 (And.intro hou4 (And.intro hsz4 hold4))))))))
  clear hT4 hcc4 hl4 hb4 hos4 htp4 hou4 hsz4 hold4 HSh hx hcell4 df d0 d1 d2 d4 hT1 hP1 l1 l2 f1 e3 hRc hRm hcl hcm c0
  go_wp2_with (go_at_call 41; fail)
  obtain ⟨hT4, hp4, hl4, hb4, hos4, htp4, hou4, hsz4, hold4⟩ := H4.out
  have hx := HH.out.2.2.2.2.2.2
  have hrs := row_set hl4.1 hx
  have hls : (q.l.set j (asHole x)).length = L := by rw [List.length_set, HL.out]
  have hb5 : (w4.setCell ⟨g4, j * 3 + 2, none⟩ (.int .i64 (-2))).heap[b2]? = some (NodeCells { q with l := q.l.set j (asHole x) } (.slice (some ⟨g4, 0, none⟩) (q.l.set j (asHole x)).length c6)) := by
    rw [setCell_far _ _ _ _ (fun e => hne4 e.symm), hls, ← HL.out]; exact hb4
  rw [show q.l.length = (q.l.set j (asHole x)).length by rw [List.length_set]] at hrs
  refine (tidy_ok _ b2 { q with l := q.l.set j (asHole x) } (some ⟨g4, 0, none⟩) c6 hb5 hrs (by simp [Value.ownBlock]; exact hne4) (by rw [hls]; exact hql)).mono ?_
  rintro e w6 ⟨rfl, hb6, ho6, k, hk, htd⟩
  clear hp4 hl4 hb4 hos4 htp4 hou4 hsz4 hold4
  have H6 := Lib.hid (And.intro hT4 (And.intro hx (And.intro hrs (And.intro hb6 (And.intro ho6 htd)))))
  clear hT4 hx hrs hb6 ho6 htd hb5
  go_wp2
  go_ret
  obtain ⟨hT4, hx, hrs, hb6, ho6, htd⟩ := H6.out
  obtain ⟨_, hp4, hl4, hb4, hos4, htp4, hou4, hsz4, hold4⟩ := H4.out
  have hkL : k ≤ L := by rw [hls] at hk; exact hk
  have htl : (tidy (q.l.set j (asHole x))).length = k := by rw [htd, List.length_take, hls]; omega
  have hlt : ∀ k', own k' ≠ none → k' < w4.heap.size → k' ≠ b2 → k' ≠ g4 → w6.heap[k']? = w4.heap[k']? := fun k' _ _ h3 h4 => (ho6.block k' h3).trans (setCell_far _ _ _ _ h4)
  have hog4 : own g4 = some (2 * p + 3) := hl4.2 g4 rfl
  have hrowk := row_prefix hrs (m := k) (by rw [hls]; exact hkL)
  rw [← htd, htl] at hrowk
  refine ⟨rfl, own, ⟨g, cap, cs4, ?_⟩, ?_⟩
  · refine hT4.setNode (n' := { q with l := tidy (q.l.set j (asHole x)) }) (iv := .slice (some ⟨g4, 0, none⟩) k c6) HH.out.2.2.2.1 hp4 (fun k' h1 h2 h3 h4 => hlt k' h1 h4 (fun e => h2 (by rw [e]; exact hob4)) (fun e => h3 (by rw [e]; exact hog4))) (fun _ _ => rfl) ?_ ⟨?_, ?_⟩
    · rw [hb6, htl]; rfl
    · show w6.ownsRow 0 54 3 (.slice (some ⟨g4, 0, none⟩) k c6) (tidy (q.l.set j (asHole x))).length (icells (tidy (q.l.set j (asHole x))))
      rw [htl]
      refine row_same hrowk fun g' hg' => ?_
      have : g' = g4 := by simpa [Value.ownBlock] using hg'.symm
      subst this
      exact ho6.block g' hne4
    · intro g' hg'
      have : g' = g4 := by simpa [Value.ownBlock] using hg'.symm
      subst this
      exact hog4
  · have hg1 : own g = some 1 := hT4.ownG
    have ht1 : own t = some 0 := hT4.ownT
    refine ⟨ho6.os.trans (hos4.trans HB3.out.os), ho6.tape.trans (htp4.trans HB3.out.tape), ho6.output.trans (hou4.trans HB3.out.output), by rw [ho6.size, setCell_size]; exact Nat.le_trans HB3.out.size hsz4, fun k' h1 h2 => ?_, fun _ _ => rfl, fun _ h => .inl h⟩
    rw [ho6.block k' (fun e => by rw [e, hob4] at h2; cases h2), setCell_far _ _ _ _ (fun e => by rw [e, hog4] at h2; cases h2),
      hold4 k' (Nat.lt_of_lt_of_le h1 HB3.out.size) (fun e => by rw [e, hg1] at h2; cases h2) (fun e => by rw [e, ht1] at h2; cases h2)]
    exact HB3.out.block k' h1
end Ne
end Go.Proofs.Ytllmddhahpegmaa
