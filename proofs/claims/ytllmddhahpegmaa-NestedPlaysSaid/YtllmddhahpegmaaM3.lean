/- The walks of Begin. The walk of Begin. The walks of live and Live. -/
import Derived.Test.YtllmddhahpegmaaM2
import Derived.Deep.Cut
import Derived.Test.YtllmddhahpegmaaM1
import Derived.StillTailTactics
import Derived.Deep.RegionHeld3
namespace Go.Proofs.Ytllmddhahpegmaa
open Go.RowKit
namespace Ne

theorem hole_lt {M : Tr} (h : hole M < M.length) : M[hole M]? = some none := by
  have := List.findIdx_getElem (w := h)
  rw [List.getElem?_eq_getElem h]
  cases e : M[hole M] with
  | none => rfl
  | some n => exact absurd this (by show ¬ (M[hole M]).isNone = true; rw [e]; simp)

theorem hole_before {M : Tr} {j : Nat} (h : j < hole M) : ∃ n, M[j]? = some (some n) := by
  have hl : j < M.length := Nat.lt_of_lt_of_le h List.findIdx_le_length
  have := List.not_of_lt_findIdx h
  rw [List.getElem?_eq_getElem hl]
  cases e : M[j] with
  | none => rw [e] at this; simp at this
  | some n => exact ⟨n, rfl⟩

theorem run_equalIn_nil_ptr (P : Program) (w : World) (d : Nat) (t e : TypeId) (p : Option Addr) (h : P.underlying t = some (.pointer e)) :
    (Op.equalIn (d + 1) t (.pointer none) (.pointer p)).run P w = .ok p.isNone w := by
  cases p <;> simp [Op.equalIn, run_underlying h]
theorem run_equal_nil_ptr (P : Program) (w : World) (t e : TypeId) (p : Option Addr) (h : P.underlying t = some (.pointer e)) :
    (Op.equal t (.pointer none) (.pointer p)).run P w = .ok p.isNone w := run_equalIn_nil_ptr P w 9999 t e p h
theorem run_eql_nil_ptr (P : Program) (w : World) (t e : TypeId) (p : Option Addr) (h : P.underlying t = some (.pointer e)) :
    (binOp .eql t (.pointer none) (.pointer p)).run P w = .ok (.bool p.isNone) w := by
  simp only [binOp]
  simp [run_equal_nil_ptr P w t e p h]

set_option maxHeartbeats 400000 in
theorem index_ok (w : World) (own : Nat → Option Nat) (t g cap : Nat) (cs : Array Value) (M : Tr) (h : TreeAt w own t g cap cs M) (hm : M.length ≤ 64) :
    Calls Try.prog 43 #[.slice (some ⟨g, 0, none⟩) M.length cap, .pointer none] w fun e w' => e = .returned (.int .i64 (if hole M < M.length then (hole M : Int) else -1)) ∧ w = w' := by
  have hc : ∀ j, j < M.length → (w.cell? ⟨g, j, none⟩ = some (.pointer none) ∧ M[j]? = some none) ∨ ∃ b, w.cell? ⟨g, j, none⟩ = some (.pointer (some ⟨b, 0, none⟩)) ∧ M[j]? ≠ some none := by
    intro j hj
    obtain ⟨o, ho⟩ : ∃ o, M[j]? = some o := ⟨_, List.getElem?_eq_getElem hj⟩
    obtain ⟨v, hv, hn⟩ := h.node j o ho
    have : w.cell? ⟨g, j, none⟩ = some v := by rw [cell_of_row w g _ cs _ _ h.row, hv]
    cases o with
    | none => have hn' : v = .pointer none := hn; subst hn'; exact .inl ⟨this, by simp [ho]⟩
    | some n => obtain ⟨b, iv, rfl, _⟩ := hn; exact .inr ⟨_, this, by simp [ho]⟩
  have hle : hole M ≤ M.length := List.findIdx_le_length
  have h1 : ∀ j, j < hole M → ∃ b, w.cell? ⟨g, j, none⟩ = some (.pointer (some ⟨b, 0, none⟩)) := by
    intro j hj
    obtain ⟨n, hn⟩ := hole_before hj
    rcases hc j (by omega) with ⟨_, h2⟩ | ⟨b, h1, _⟩
    · rw [hn] at h2; simp at h2
    · exact ⟨b, h1⟩
  have h2 : hole M < M.length → w.cell? ⟨g, hole M, none⟩ = some (.pointer none) := by
    intro hj
    rcases hc _ hj with ⟨h1, _⟩ | ⟨b, _, h2⟩
    · exact h1
    · exact absurd (hole_lt hj) h2
  clear hc h
  generalize hole M = k at *
  generalize M.length = L at *
  obtain ⟨r, hr⟩ : ∃ r : Int, r = if k < L then (k : Int) else -1 := ⟨_, rfl⟩
  rw [← hr]
  have HR := Lib.hid hr
  clear hr
  have he := fun w p => run_eql_nil_ptr Try.prog w 69 35 p Try.underlying69
  go_enter Try.func43, Try.ntmps43
  go_wp2
  go_loop [5, 8] (fun a i => ∃ j : Nat, j ≤ k ∧ i = .int .i64 j) (fun _ i => L - (intOf i).toNat)
  case atStart => exact ⟨0, Nat.zero_le _, rfl⟩
  case round =>
    obtain ⟨j, hj, rfl⟩ := hrel
    by_cases hlt : j < k
    · obtain ⟨p, hp⟩ := h1 j hlt
      clear h1 h2
      go_wp2
      go_round
      case rel => exact ⟨j + 1, by omega, by go_num⟩
      case measure => simp [intOf]; omega
    · obtain rfl : j = k := by omega
      by_cases hL : j < L
      · have hp := h2 hL
        clear h1 h2
        go_wp2
        go_ret
        exact ⟨by rw [HR.out, if_pos hL]; rfl, rfl⟩
      · clear h1 h2
        go_wp2
        go_ret
        exact ⟨by rw [HR.out, if_neg hL]; rfl, rfl⟩

theorem nodesRow {w : World} {own : Nat → Option Nat} {t g cap : Nat} {cs : Array Value} {M : Tr} (h : TreeAt w own t g cap cs M) :
    w.ownsRow 0 69 1 (.slice (some ⟨g, 0, none⟩) M.length cap) M.length (cs.toList.take M.length) := by
  have h1 := h.len
  have h2 := h.size
  exact ⟨by simp; omega, .inr ⟨g, cap, cs, rfl, Nat.zero_le _, h.row, h.len, h.most, by omega, by simp⟩⟩

/-- A place more in the row of arenas, behind append and the store of the slice. -/
theorem push_nil {w w2 w1 : World} {own : Nat → Option Nat} {t g cap : Nat} {cs : Array Value} {M : Tr} {g' cap' : Nat} (h : TreeAt w own t g cap cs M)
    (h2 : Below w.heap.size w w2)
    (hown : w1.ownsRow 0 69 1 (.slice (some ⟨g', 0, none⟩) (M.length + 1) cap') (M.length + 1) (cs.toList.take M.length ++ [.pointer none])) (hg : w2.grownBy w1 (some g)) (hat : some g = some g' ∨ g' = w2.heap.size) :
    ∃ own' cs', TreeAt (w1.setCell ⟨t, 0, none⟩ (.slice (some ⟨g', 0, none⟩) (M.length + 1) cap')) own' t g' cap' cs' (M ++ [none]) ∧
      Keeps own own' w (w1.setCell ⟨t, 0, none⟩ (.slice (some ⟨g', 0, none⟩) (M.length + 1) cap')) ∧ ∀ j, j < M.length → cs'[j]? = cs[j]? := by
  rcases hown.2 with ⟨e, _⟩ | ⟨g'', cap'', cur, hv, _, hgg, hlc, hcm, hcs, htake⟩
  · cases e
  injection hv with hv1 hv2 hv3
  injection hv1 with hv1
  injection hv1 with hv1 _ _
  subst hv1; subst hv3
  have hT := lt_of_heap h.top
  have hG := lt_of_heap h.row
  have hne : t ≠ g := fun e => by have := h.ownT; rw [e, h.ownG] at this; simp at this
  have hl := h.len
  have hs := h.size
  have h2s := h2.size
  have htg : t ≠ g' := by
    rcases hat with hat | hat
    · injection hat with hat; rw [← hat]; exact hne
    · omega
  have hk : ∀ k, k < w.heap.size → k ≠ g → k ≠ t → (w1.setCell ⟨t, 0, none⟩ (.slice (some ⟨g', 0, none⟩) (M.length + 1) cap')).heap[k]? = w.heap[k]? := by
    intro k h1 h3 h4
    rw [setCell_far _ _ _ _ h4, hg.block k (by omega) (fun e => h3 (by injection e)), h2.block k h1]
  have hcur : ∀ j, j < M.length + 1 → cur[j]? = (cs.toList.take M.length ++ [Value.pointer none])[j]? := by
    intro j hj
    rw [← htake, List.getElem?_take, if_pos (by omega)]
    simp
  refine ⟨fun k => if k = g' then some 1 else own k, cur, ⟨?_, ?_, ?_, ?_, by omega, by simpa using hlc, hcm, ?_⟩, ⟨hg.os.trans h2.os, hg.tape.trans h2.tape, hg.output.trans h2.output, by rw [setCell_size]; exact Nat.le_trans h2s hg.size, ?_, ?_, ?_⟩, ?_⟩
  · show (if t = g' then _ else own t) = _
    rw [if_neg htg]; exact h.ownT
  · exact if_pos rfl
  · have h1t : w1.heap[t]? = some (.cells #[.slice (some ⟨g, 0, none⟩) M.length cap] 68 (0, 0)) := by
      rw [hg.block t (by omega) (fun e => hne (by injection e)), h2.block t hT]; exact h.top
    rw [setCell_at _ _ _ _ _ _ h1t]
    simp
  · rw [setCell_far _ _ _ _ (fun e => htg e.symm)]; exact hgg
  · intro j o hj
    have hjl : j < M.length + 1 := by have := (List.getElem?_eq_some_iff.1 hj).1; simpa using this
    by_cases e : j = M.length
    · subst e
      have : o = none := by simpa using hj.symm
      subst this
      have htl : (cs.toList.take M.length).length = M.length := by simp; omega
      exact ⟨.pointer none, by rw [hcur _ hjl, List.getElem?_append_right (by omega), htl, Nat.sub_self]; rfl, rfl⟩
    · have hjM : M[j]? = some o := by rw [List.getElem?_append_left (by omega)] at hj; exact hj
      obtain ⟨v, hv, hn⟩ := h.node j o hjM
      refine ⟨v, by rw [hcur _ hjl, List.getElem?_append_left (by simp; omega), List.getElem?_take, if_pos (by omega)]; simpa using hv, hn.same fun k hk' hs' => ⟨hk k hs' ?_ ?_, ?_⟩⟩
      · intro e'; subst e'; rw [h.ownG] at hk'; simp at hk'
      · intro e'; subst e'; rw [h.ownT] at hk'; simp at hk'
      · show (if k = g' then _ else own k) = own k
        split
        · next e' =>
          rcases hat with hat | hat
          · injection hat with hat; rw [e', ← hat, h.ownG] at hk'; simp at hk'
          · omega
        · rfl
  · intro k h1 h3
    refine hk k h1 ?_ ?_
    · intro e'; subst e'; rw [h.ownG] at h3; cases h3
    · intro e'; subst e'; rw [h.ownT] at h3; cases h3
  · intro k h1
    show (if k = g' then _ else own k) = own k
    split
    · next e' =>
      rcases hat with hat | hat
      · injection hat with hat; rw [e', ← hat, h.ownG]
      · omega
    · rfl
  · intro k h1
    by_cases e : k = g'
    · subst e
      rcases hat with hat | hat
      · injection hat with hat; exact .inl (by rw [← hat, h.ownG]; simp)
      · exact .inr ⟨by omega, by rw [setCell_size]; exact lt_of_heap hgg⟩
    · have h1' : (if k = g' then some 1 else own k) ≠ none := h1
      rw [if_neg e] at h1'
      exact .inl h1'
  · intro j hj
    rw [hcur j (by omega), List.getElem?_append_left (by simp; omega), List.getElem?_take, if_pos hj]
    simp

end Ne
end Go.Proofs.Ytllmddhahpegmaa
namespace Go.Proofs.Ytllmddhahpegmaa
open Go.RowKit
namespace Ne

/-- A new arena's block is laid, and its pointer is stored. -/
theorem put_node_ {w : World} {own : Nat → Option Nat} {t g cap : Nat} {cs : Array Value} {M : Tr} {k : Nat} {n : Node} (h : TreeAt w own t g cap cs M) (hk : k < M.length) (hn : n.l = []) :
    ∃ own', Tree ((w.alloc (NodeCells n (.slice none 0 0))).setCell ⟨g, k, none⟩ (.pointer (some ⟨w.heap.size, 0, none⟩))) own' t (M.set k (some n)) ∧
      Keeps own own' w ((w.alloc (NodeCells n (.slice none 0 0))).setCell ⟨g, k, none⟩ (.pointer (some ⟨w.heap.size, 0, none⟩))) := by
  have hG := lt_of_heap h.row
  have hne : w.heap.size ≠ g := by omega
  have hold : ∀ j, j < w.heap.size → j ≠ g → ((w.alloc (NodeCells n (.slice none 0 0))).setCell ⟨g, k, none⟩ (.pointer (some ⟨w.heap.size, 0, none⟩))).heap[j]? = w.heap[j]? := by
    intro j hj hjg
    rw [setCell_far _ _ _ _ hjg, heapAlloc, if_neg (by omega)]
  refine ⟨fun j => if j = w.heap.size then some (2 * k + 2) else own j, ⟨g, cap, _, h.setPtr hk (fun j h1 h2 h3 => hold j h3 h2) (fun j hj => if_neg (by omega)) ?_ ⟨w.heap.size, .slice none 0 0, rfl, if_pos rfl, ?_, ?_⟩⟩,
    rfl, rfl, rfl, by rw [setCell_size]; simp, fun j h1 h2 => hold j h1 (fun e => by rw [e, h.ownG] at h2; cases h2), fun j hj => if_neg (by omega), fun j h1 => by
      by_cases e : j = w.heap.size
      · exact .inr ⟨by omega, by rw [setCell_size]; simp; omega⟩
      · have h1' : (if j = w.heap.size then some (2 * k + 2) else own j) ≠ none := h1
        rw [if_neg e] at h1'
        exact .inl h1'⟩
  · exact setCell_at _ _ _ _ _ _ (by rw [heapAlloc, if_neg (by omega)]; exact h.row)
  · rw [setCell_far _ _ _ _ hne, heapAlloc, if_pos rfl]
  · rw [hn]
    exact ⟨World.ownsRow_nil _ _ _ _, fun g' hg' => by simp [Value.ownBlock] at hg'⟩

theorem put_node {w : World} {own : Nat → Option Nat} {t g cap : Nat} {cs : Array Value} {M : Tr} {k : Nat} {n : Node} (h : TreeAt w own t g cap cs M) (hk : k < M.length) (hn : n.l = []) :
    ∃ own', Tree ((w.setCell ⟨g, k, none⟩ (.pointer (some ⟨w.heap.size, 0, none⟩))).alloc (NodeCells n (.slice none 0 0))) own' t (M.set k (some n)) ∧
      Keeps own own' w ((w.setCell ⟨g, k, none⟩ (.pointer (some ⟨w.heap.size, 0, none⟩))).alloc (NodeCells n (.slice none 0 0))) := by
  have := put_node_ h hk hn
  rw [World.setCell_alloc_past _ _ _ _ (lt_of_heap h.row)] at this
  exact this

theorem begin_err (w : World) (t : Nat) (i sz al E : Int) (hE : E ≠ 0)
    (hG : Calls Try.prog 36 #[.pointer (some ⟨t, 0, none⟩), .int .i64 i, .int .i64 sz, .int .i64 al] w fun e w' => e = .returned (.tuple #[.pointer none, .int .i64 0, .int .i64 E]) ∧ ∃ k, w' = w.drewN k) :
    Calls Try.prog 22 #[.pointer (some ⟨t, 0, none⟩), .int .i64 i, .int .i64 sz, .int .i64 al] w fun e w' => e = .returned (.tuple #[.int .i64 0, .int .i64 E]) ∧ ∃ k, w' = w.drewN k := by
  have H := Lib.hid hG
  clear hG
  have hE' : (E != 0) = true := by rw [bne_iff_ne]; exact hE
  clear hE
  go_enter Try.func22, Try.ntmps22
  go_wp2_with (first | (go_at_call 36; refine H.out.mono ?_; rintro e w' ⟨rfl, k, rfl⟩))
  go_ret2
  exact ⟨rfl, _, rfl⟩

set_option maxRecDepth 100000 in
set_option maxHeartbeats 1000000 in
theorem begin_ok (w : World) (own : Nat → Option Nat) (t g cap : Nat) (cs : Array Value) (M : Tr) (i sz al U : Int) (n : Node) (b : Nat) (_ : Option Addr) (_ : Nat) (h : TreeAt w own t g cap cs M) (hm : M.length ≤ 64)
    (hi : M[i.toNat]? = some (some n)) (_ : 0 ≤ i) (hc : cs[i.toNat]? = some (.pointer (some ⟨b, 0, none⟩))) (hlen : n.l.length < 200)
    (hG : Calls Try.prog 36 #[.pointer (some ⟨t, 0, none⟩), .int .i64 i, .int .i64 sz, .int .i64 al] w fun e w' => e = .returned (.tuple #[.pointer (some ⟨b, 0, none⟩), .int .i64 U, .int .i64 0]) ∧ ∃ k, w' = w.drewN k) :
    Calls Try.prog 22 #[.pointer (some ⟨t, 0, none⟩), .int .i64 i, .int .i64 sz, .int .i64 al] w fun e w' => e = .returned (if hole M = 64 then .tuple #[.int .i64 0, .int .i64 5] else .tuple #[.int .i64 (hole M), .int .i64 0]) ∧
      ∃ own', Tree w' own' t (if hole M = 64 then M else (addItem (room M (hole M)) i.toNat ⟨U, sz, hole M⟩).set (hole M) (some ⟨i, U, sz, []⟩)) ∧ Keeps own own' w w' := by
  have H := Lib.hid hG
  obtain ⟨i0, z0, hi0, hz0, hz1, hz2, hz3⟩ := info_open item_info
  have hX := fun k => Lib.hid (index_ok (w.drewN k) own t g cap cs M (h.same fun k _ _ => ⟨rfl, rfl⟩) hm)
  have hle : hole M ≤ M.length := List.findIdx_le_length
  have hT : w.cell? ⟨t, 0, none⟩ = some (.slice (some ⟨g, 0, none⟩) M.length cap) := by simp [World.cell?, h.top]
  by_cases hk : hole M < M.length
  · have hne : hole M ≠ 64 := by omega
    rw [if_neg hne, if_neg hne]
    rw [if_pos hk] at hX
    go_enter Try.func22, Try.ntmps22
    go_upto_region 10 with (first | (go_at_call 36; refine H.out.mono ?_; rintro e w' ⟨rfl, k, rfl⟩) | (go_at_call 43; refine (hX _).out.mono ?_; rintro e w' ⟨rfl, rfl⟩))
    have h3 : TreeAt (w.drewN k) own t g cap cs M := h.same fun k _ _ => ⟨rfl, rfl⟩
    have hK3 : Keeps own own w (w.drewN k) := .drewN own w k
    obtain ⟨M3, hM3⟩ : ∃ M3, M3 = room M (hole M) := ⟨_, rfl⟩
    have hMM : M3 = M := by rw [hM3, room, if_pos hk]
    have hlM : hole M < M3.length := by rw [hMM]; exact hk
    have hi3 : M3[i.toNat]? = some (some n) := by rw [hMM]; exact hi
    obtain ⟨g3, hg3⟩ : ∃ x, x = g := ⟨_, rfl⟩
    obtain ⟨cap3, hcap3⟩ : ∃ x, x = cap := ⟨_, rfl⟩
    obtain ⟨cs3, hcs3⟩ : ∃ x, x = cs := ⟨_, rfl⟩
    have hc3 : cs3[i.toNat]? = some (.pointer (some ⟨b, 0, none⟩)) := by rw [hcs3]; exact hc
    rw [← hMM, ← hg3, ← hcap3, ← hcs3] at h3
    obtain ⟨own3, ho3⟩ : ∃ own3, own3 = own := ⟨_, rfl⟩
    rw [← ho3] at h3
    rw [show Keeps own own w (w.drewN k) = Keeps own own3 w (w.drewN k) by rw [ho3]] at hK3
    clear H hX h hT hi hc hG ho3 hg3 hcap3 hcs3 hMM
    generalize (w.drewN k) = w3 at *
    obtain ⟨hob3, iv3, hb3, hl3⟩ := nodeOwn h3 hi3 hc3
    obtain ⟨A3, c3, rfl⟩ := itemsLen hl3
    obtain ⟨d0, d1, d2, d3, d4, df⟩ := nodeOpen hb3
    have hbl3 := lt_of_heap hb3
    have hne3 : (Value.slice A3 n.l.length c3).ownBlock ≠ some b := fun e => by have := hl3.2 b e; rw [hob3] at this; simp at this
    have HP := fun w2 w1 g' cap' => Lib.hid (@push_item w3 w2 w1 own3 t g3 cap3 cs3 M3 i.toNat b n (.slice A3 n.l.length c3) ⟨U, sz, hole M⟩ g' cap' h3 hi3 hc3 hb3 hl3)
    have hrow3 := hl3.1
    have hadd : addItem M3 i.toNat ⟨U, sz, hole M⟩ = M3.set i.toNat (some { n with l := n.l ++ [⟨U, sz, hole M⟩] }) := addItem_eq hi3 _
    have HM3 := Lib.hid (And.intro hM3 hadd)
    have HK3 := Lib.hid hK3
    have HL := Lib.hid hlM
    clear hadd hM3 hl3 h3 hc3 hi3 hob3 hK3 hlM
    generalize hL : n.l.length = L at *
    clear hL
    go_upto_region 11 with (first |
      (at_builtin; refine wpList_append_lies _ rfl (.tmp 51) (.tmp 56) _ rfl 0 54 i0 z0 3 24 Try.underlying33 hi0 hz0 hz1 hz2 hz3 (by omega) (.slice A3 L c3) L (icells n.l) rfl (hrow3.alloc _) ⟨w3.heap.size, 0, none⟩ 1 1 (Item.cells ⟨U, sz, hole M⟩) rfl rfl (World.news_of_block (heap_alloc_new _ _)) (by simp [Item.cells, Value.oneCell']) (by omega) (by unfold maxLen; omega) (by omega) (Nat.zero_le _) (w3.heap.size + 1) (by simp) ?_
       intro g' cap' w1 hown1 hgrow1 hat1 hlt1
       have q1 : w1.cell? ⟨b, 3, none⟩ = some (.slice A3 L c3) := (hgrow1.cell_far ⟨b, 3, none⟩ (by simp; omega) hne3.symm).trans ((World.cell?_alloc_lt _ _ _ hbl3).trans d3)
       have q2 : w1.frozen? ⟨b, 3, none⟩ = false := (hgrow1.frozen_far ⟨b, 3, none⟩ (by simp; omega) hne3.symm).trans ((World.frozen?_alloc_old _ _ _ (Nat.ne_of_lt hbl3)).trans (df 3))))
    obtain ⟨own4, h4, hK4⟩ := (HP _ w1 g' cap').out ((Below.refl _ w3).alloc (Nat.le_refl _) _) hown1 hgrow1 (hat1.elim .inl (fun e => .inr (by simp [e])))
    clear HP hown1 hgrow1 hat1 hlt1 q1 q2 hrow3 hne3 d0 d1 d2 d3 d4 df hb3 hbl3
    generalize (w1.setCell ⟨b, 3, none⟩ (.slice (some ⟨g', 0, none⟩) (L + 1) cap')) = w4 at *
    have hlM4 : hole M < (M3.set i.toNat (some { n with l := n.l ++ [⟨U, sz, hole M⟩] })).length := by rw [List.length_set]; exact HL.out
    obtain ⟨own5, h5, hK5⟩ := put_node (n := ⟨i, U, sz, []⟩) h4 hlM4 rfl
    rw [← HM3.out.2, HM3.out.1] at h5
    have HF := Lib.hid (And.intro h5 ((HK3.out.trans hK4).trans hK5))
    have e1 : w4.cell? ⟨t, 0, none⟩ = some (.slice (some ⟨g3, 0, none⟩) M3.length cap3) := by simp [World.cell?, h4.top]
    have hsz := h4.size
    have hcapl := h4.len
    rw [List.length_set] at hcapl
    have e2 : ∃ v, w4.cell? ⟨g3, hole M, none⟩ = some v := by
      rw [cell_of_row w4 g3 _ _ _ _ h4.row]
      rw [List.length_set] at hlM4
      exact ⟨_, Array.getElem?_eq_getElem (by omega)⟩
    obtain ⟨v2, e2⟩ := e2
    have e3 : w4.frozen? ⟨g3, hole M, none⟩ = false := by simp [World.frozen?, h4.row]
    have hgl := lt_of_heap h4.row
    have htl := lt_of_heap h4.top
    have hlM5 := HL.out
    clear h4 hK4 hlM4 h5 hK5 hsz
    generalize M3.length = N3 at *
    go_wp2
    go_ret2
    exact ⟨rfl, own5, HF.out.1, HF.out.2⟩
  · have hke : hole M = M.length := by omega
    rw [if_neg hk] at hX
    by_cases h64 : hole M = 64
    · rw [if_pos h64, if_pos h64]
      have h64' : ((M.length : Int) == 64) = true := by rw [beq_iff_eq]; omega
      have hF : Tree w own t M := ⟨g, cap, cs, h⟩
      have HF := fun k => Lib.hid (And.intro (hF.drewN k) (Keeps.drewN own w k))
      clear h64 hke hk hle hF h hi hc hG
      generalize M.length = L at *
      go_enter Try.func22, Try.ntmps22
      go_wp2_with (first | (go_at_call 36; refine H.out.mono ?_; rintro e w' ⟨rfl, k, rfl⟩) | (go_at_call 43; refine (hX _).out.mono ?_; rintro e w' ⟨rfl, rfl⟩))
      go_ret2
      exact ⟨rfl, own, (HF k).out.1, (HF k).out.2⟩
    · rw [if_neg h64, if_neg h64]
      have h64' : ((M.length : Int) == 64) = false := by rw [beq_eq_false_iff_ne]; omega
      obtain ⟨p0, pz, hp0, hpz, hp1, hp2, hp3⟩ := info_open ptr_info
      have hrow := nodesRow h
      have HN := fun w2 w1 g' cap' => Lib.hid (@push_nil w w2 w1 own t g cap cs M g' cap' h)
      have htl := lt_of_heap h.top
      have htf : w.frozen? ⟨t, 0, none⟩ = false := by simp [World.frozen?, h.top]
      have hgt : g ≠ t := fun e => by have := h.ownT; rw [← e, h.ownG] at this; simp at this
      have HM := Lib.hid (And.intro hi hc)
      have hiM : i.toNat < M.length := (List.getElem?_eq_some_iff.1 hi).1
      have hKe := hke
      clear h64 hke hk hle h hi hc hG
      generalize hL : M.length = L at *
      have HLL := Lib.hid hL
      clear hL
      generalize hole M = K at *
      have hKL : L = K := hKe.symm
      subst hKL
      clear hKe
      go_enter Try.func22, Try.ntmps22
      go_upto_region 10 with (first | (go_at_call 36; refine H.out.mono ?_; rintro e w' ⟨rfl, k, rfl⟩) | (go_at_call 43; refine (hX _).out.mono ?_; rintro e w' ⟨rfl, rfl⟩) |
        (at_builtin; refine wpList_append_lies _ rfl (.tmp 42) (.tmp 43) _ rfl 0 69 p0 pz 1 8 Try.underlying66 hp0 hpz hp1 hp2 hp3 (by omega) (.slice (some ⟨g, 0, none⟩) L cap) L (cs.toList.take L) rfl (hrow.alloc _) ⟨w.heap.size, 0, none⟩ 1 1 [.pointer none] rfl rfl (World.news_of_block (heap_alloc_new _ _)) (by simp [Value.oneCell']) (by omega) (by unfold maxLen; omega) (by omega) (Nat.zero_le _) (w.heap.size + 1) (by simp) ?_
         intro gg capg wg hown1 hgrow1 hat1 hlt1
         have q1 : wg.cell? ⟨t, 0, none⟩ = some (.slice (some ⟨g, 0, none⟩) L cap) := (hgrow1.cell_far ⟨t, 0, none⟩ (by simp; omega) (by simp [Value.ownBlock]; exact fun e => hgt e.symm)).trans ((World.cell?_alloc_lt _ _ _ htl).trans hT)
         have q2 : wg.frozen? ⟨t, 0, none⟩ = false := (hgrow1.frozen_far ⟨t, 0, none⟩ (by simp; omega) (by simp [Value.ownBlock]; exact fun e => hgt e.symm)).trans ((World.frozen?_alloc_old _ _ _ (Nat.ne_of_lt htl)).trans htf)))
      obtain ⟨own3, cs3, h3, hK3, hcc⟩ := (HN _ wg gg capg).out ((below_drewN (Below.refl _ w) k).alloc (Nat.le_refl _) _) hown1 hgrow1 (hat1.elim .inl (fun e => .inr (by simp [e])))
      obtain ⟨M3, hM3⟩ : ∃ M3, M3 = room M (L) := ⟨_, rfl⟩
      have hMM : M3 = M ++ [none] := by rw [hM3, room, if_neg (by rw [HLL.out]; omega)]
      have hlM : L < M3.length := by rw [hMM]; simp [HLL.out]
      have hi3 : M3[i.toNat]? = some (some n) := by rw [hMM, List.getElem?_append_left (by rw [HLL.out]; exact hiM)]; exact HM.out.1
      have hc3 : cs3[i.toNat]? = some (.pointer (some ⟨b, 0, none⟩)) := by rw [hcc _ hiM]; exact HM.out.2
      rw [← hMM] at h3
      obtain ⟨g3, hg3⟩ : ∃ x, x = gg := ⟨_, rfl⟩
      obtain ⟨cap3, hcap3⟩ : ∃ x, x = capg := ⟨_, rfl⟩
      rw [← hg3, ← hcap3] at h3
      rw [← hg3, ← hcap3] at hK3
      rw [← hg3, ← hcap3]
      clear H hX hT hrow HN htf hgt HM hiM hcc hMM hown1 hgrow1 hat1 hlt1 q1 q2 hg3 hcap3 h64'
      generalize (wg.setCell ⟨t, 0, none⟩ (.slice (some ⟨g3, 0, none⟩) (L + 1) cap3)) = w3 at *
      obtain ⟨hob3, iv3, hb3, hl3⟩ := nodeOwn h3 hi3 hc3
      obtain ⟨A3, c3, rfl⟩ := itemsLen hl3
      obtain ⟨d0, d1, d2, d3, d4, df⟩ := nodeOpen hb3
      have hbl3 := lt_of_heap hb3
      have hne3 : (Value.slice A3 n.l.length c3).ownBlock ≠ some b := fun e => by have := hl3.2 b e; rw [hob3] at this; simp at this
      have HP := fun w2 w1 g' cap' => Lib.hid (@push_item w3 w2 w1 own3 t g3 cap3 cs3 M3 i.toNat b n (.slice A3 n.l.length c3) ⟨U, sz, L⟩ g' cap' h3 hi3 hc3 hb3 hl3)
      have hrow3 := hl3.1
      have hadd : addItem M3 i.toNat ⟨U, sz, L⟩ = M3.set i.toNat (some { n with l := n.l ++ [⟨U, sz, L⟩] }) := addItem_eq hi3 _
      have HM3 := Lib.hid (And.intro hM3 hadd)
      have HK3 := Lib.hid hK3
      have HL := Lib.hid hlM
      clear hadd hM3 hl3 h3 hc3 hi3 hob3 hK3 hlM
      generalize hL2 : n.l.length = L2 at *
      clear hL2
      go_upto_region 11 with (first |
        (at_builtin; refine wpList_append_lies _ rfl (.tmp 51) (.tmp 56) _ rfl 0 54 i0 z0 3 24 Try.underlying33 hi0 hz0 hz1 hz2 hz3 (by omega) (.slice A3 L2 c3) L2 (icells n.l) rfl (hrow3.alloc _) ⟨w3.heap.size, 0, none⟩ 1 1 (Item.cells ⟨U, sz, L⟩) rfl rfl (World.news_of_block (heap_alloc_new _ _)) (by simp [Item.cells, Value.oneCell']) (by omega) (by unfold maxLen; omega) (by omega) (Nat.zero_le _) (w3.heap.size + 1) (by simp) ?_
         intro g' cap' w1 hown1 hgrow1 hat1 hlt1
         have q1 : w1.cell? ⟨b, 3, none⟩ = some (.slice A3 L2 c3) := (hgrow1.cell_far ⟨b, 3, none⟩ (by simp; omega) hne3.symm).trans ((World.cell?_alloc_lt _ _ _ hbl3).trans d3)
         have q2 : w1.frozen? ⟨b, 3, none⟩ = false := (hgrow1.frozen_far ⟨b, 3, none⟩ (by simp; omega) hne3.symm).trans ((World.frozen?_alloc_old _ _ _ (Nat.ne_of_lt hbl3)).trans (df 3))))
      obtain ⟨own4, h4, hK4⟩ := (HP _ w1 g' cap').out ((Below.refl _ w3).alloc (Nat.le_refl _) _) hown1 hgrow1 (hat1.elim .inl (fun e => .inr (by simp [e])))
      clear HP hown1 hgrow1 hat1 hlt1 q1 q2 hrow3 hne3 d0 d1 d2 d3 d4 df hb3 hbl3
      generalize (w1.setCell ⟨b, 3, none⟩ (.slice (some ⟨g', 0, none⟩) (L2 + 1) cap')) = w4 at *
      have hlM4 : L < (M3.set i.toNat (some { n with l := n.l ++ [⟨U, sz, L⟩] })).length := by rw [List.length_set]; exact HL.out
      obtain ⟨own5, h5, hK5⟩ := put_node (n := ⟨i, U, sz, []⟩) h4 hlM4 rfl
      rw [← HM3.out.2, HM3.out.1] at h5
      have HF := Lib.hid (And.intro h5 ((HK3.out.trans hK4).trans hK5))
      have e1 : w4.cell? ⟨t, 0, none⟩ = some (.slice (some ⟨g3, 0, none⟩) M3.length cap3) := by simp [World.cell?, h4.top]
      have hsz := h4.size
      have hcapl := h4.len
      rw [List.length_set] at hcapl
      have e2 : ∃ v, w4.cell? ⟨g3, L, none⟩ = some v := by
        rw [cell_of_row w4 g3 _ _ _ _ h4.row]
        rw [List.length_set] at hlM4
        exact ⟨_, Array.getElem?_eq_getElem (by omega)⟩
      obtain ⟨v2, e2⟩ := e2
      have e3 : w4.frozen? ⟨g3, L, none⟩ = false := by simp [World.frozen?, h4.row]
      have hgl := lt_of_heap h4.row
      have htl := lt_of_heap h4.top
      have hlM5 := HL.out
      clear h4 hK4 hlM4 h5 hK5 hsz
      generalize M3.length = N3 at *
      go_wp2
      go_ret2
      exact ⟨rfl, own5, HF.out.1, HF.out.2⟩

theorem begin_tree (w : World) (own : Nat → Option Nat) (t : Nat) (M : Tr) (i sz al : Int) (h : Tree w own t M) (hg : Good M) :
    Calls Try.prog 22 #[.pointer (some ⟨t, 0, none⟩), .int .i64 i, .int .i64 sz, .int .i64 al] w
      (Does w own t (begin_ M i sz al).1 (.tuple #[.int .i64 (begin_ M i sz al).2.1, .int .i64 (begin_ M i sz al).2.2])) := by
  obtain ⟨g, cap, cs, h⟩ := h
  have hG := give_tree w own t g cap cs M i sz al h hg
  by_cases hE : (give M i sz al).2 = 0
  · rcases find_cases w own t g cap cs M i h hg with ⟨hf, _⟩ | ⟨n, b, A, c, hf, h0, hM, hc, hob, hb, hl, hok, _⟩
    · have : (give M i sz al).2 = 4 := by simp [give, hf]
      omega
    · have hlen : n.l.length < 200 := by
        have := hok.len
        have : ¬ n.l.length = 200 := fun e => by
          simp only [give, hf] at hE
          split at hE
          · simp at hE
          · rw [if_pos (.inr e)] at hE; simp at hE
        omega
      refine (begin_ok w own t g cap cs M i sz al (give M i sz al).1 n b A c h hg.len hM h0 hc hlen (hG.mono ?_)).mono ?_
      · rintro e w' ⟨⟨h1, _⟩ | ⟨n', b', iv', h1, _, _, h4, _, _, _, h5, _, _, _, h6⟩, hk⟩
        · exact absurd hE h1
        · rw [hc] at h4
          injection h4 with h4; injection h4 with h4; injection h4 with h4; injection h4 with h4
          subst h4
          exact ⟨by rw [h6, h5], hk⟩
      · rintro e w' ⟨rfl, own', hT, hK⟩
        unfold begin_
        rw [if_pos hE]
        by_cases h64 : hole M = 64
        · rw [if_pos h64] at hT ⊢
          rw [if_pos h64]
          exact ⟨rfl, own', hT, hK⟩
        · rw [if_neg h64] at hT ⊢
          rw [if_neg h64]
          exact ⟨rfl, own', hT, hK⟩
  · have hal : begin_ M i sz al = (M, 0, (give M i sz al).2) := if_neg hE
    rw [hal]
    refine (begin_err w t i sz al _ hE (hG.mono ?_)).mono ?_
    · rintro e w' ⟨⟨_, h1⟩ | ⟨n', b', iv', h1, _, _, h4, _, _, _, h5, _⟩, hk⟩
      · exact ⟨h1, hk⟩
      · exact absurd (by rw [h5]) hE
    · rintro e w' ⟨rfl, k, rfl⟩
      exact ⟨rfl, own, Tree.drewN ⟨g, cap, cs, h⟩ k, .drewN own w k⟩
end Ne
end Go.Proofs.Ytllmddhahpegmaa
namespace Go.Proofs.Ytllmddhahpegmaa
open Go.RowKit
namespace Ne

theorem rowCells {w : World} {A : Option Addr} {c : Nat} {l : List Item} (h : w.ownsRow 0 54 3 (.slice A l.length c) l.length (icells l)) :
    l.length ≤ c ∧ c ≤ maxLen ∧ ∀ j x, l[j]? = some x → ∃ g, A = some ⟨g, 0, none⟩ ∧ g < w.heap.size ∧ w.cell? ⟨g, j * 3, none⟩ = some (.int .i64 x.a) ∧ w.cell? ⟨g, j * 3 + 1, none⟩ = some (.int .i64 x.s) ∧ w.cell? ⟨g, j * 3 + 2, none⟩ = some (.int .i64 x.c) := by
  rcases rowOpen h with ⟨h1, h2⟩ | ⟨g, cap, cur, h1, hlc, hcm, hg, hcs, hc⟩
  · injection h1 with h1 h3 h4
    subst h2 h4
    exact ⟨by simp, by simp [maxLen], fun j x hx => by simp at hx⟩
  · injection h1 with h1 h3 h4
    subst h4
    exact ⟨hlc, hcm, fun j x hx => ⟨g, h1, lt_of_heap hg, hc j x hx⟩⟩

theorem liveOk_bound {t : Tr} {f : Nat} {l : List Item} (_ : LiveOk t (f + 1) l) {x : Item} (_ : x ∈ l) : True := trivial

set_option maxRecDepth 100000 in
set_option maxHeartbeats 1000000 in
theorem live_walk (own : Nat → Option Nat) (t g cap : Nat) (cs : Array Value) (M : Tr) (_ : M.length ≤ 64) (f : Nat) : ∀ (l : List Item) (A : Option Addr) (c : Nat) (w : World), TreeAt w own t g cap cs M → LiveOk M f l → l.length ≤ 200 →
    w.ownsRow 0 54 3 (.slice A l.length c) l.length (icells l) →
    Calls Try.prog 38 #[.pointer (some ⟨t, 0, none⟩), .slice A l.length c] w fun e w' => e = .returned (.int .i64 (live M f l)) ∧ Below w.heap.size w w' := by
  induction f with
  | zero => intro l A c w _ h; exact h.elim
  | succ f ih =>
    intro l A c w hT hL hlen hrow
    obtain ⟨hkid, hsum, hsz⟩ := hL
    obtain ⟨hlc, hcm, hcell⟩ := rowCells hrow
    have HI := Lib.hid ih
    have HT := Lib.hid hT
    have HC := Lib.hid hcell
    have HS := Lib.hid hsum
    have HZ := Lib.hid hsz
    have HKid := Lib.hid hkid
    have h0 : live M (f + 1) (l.take 0) = 0 := rfl
    have HE := Lib.hid (show live M (f + 1) (l.take l.length) = live M (f + 1) l by rw [List.take_length])
    have HTk := Lib.hid (fun j x hx => live_take M f l j x hx)
    clear ih hT hcell hsum hsz hkid hrow
    unfold maxLen at hcm
    have HL0 := Lib.hid h0
    clear h0
    go_enter Try.func38, Try.ntmps38
    go_wp2_with fail
    go_loopw [5, 7, 10] (fun s p i wr => ∃ j : Nat, j ≤ l.length ∧ i = .int .i64 j ∧ s = .int .i64 (live M (f + 1) (l.take j)) ∧ Below w.heap.size w wr) (fun _ _ i _ => l.length - (intOf i).toNat)
    case atStart => exact ⟨0, Nat.zero_le _, rfl, by rw [HL0.out], Below.refl _ _⟩
    case round =>
      obtain ⟨j, hj, rfl, rfl, hb⟩ := hrel
      have hM1 : wr.cell? ⟨t, 0, none⟩ = some (.slice (some ⟨g, 0, none⟩) M.length cap) := (hb.cell (p := ⟨t, 0, none⟩) (lt_of_heap HT.out.top)).trans (by simp [World.cell?, HT.out.top])
      have hs := HS.out j
      by_cases hlt : j < l.length
      · obtain ⟨x, hx⟩ : ∃ x, l[j]? = some x := ⟨_, List.getElem?_eq_getElem hlt⟩
        have hxm := List.mem_of_getElem? hx
        obtain ⟨g', rfl, hg', k1, k2, k3⟩ := HC.out j x hx
        have k1 := (hb.cell (p := ⟨g', j * 3, none⟩) hg').trans k1
        have k2 := (hb.cell (p := ⟨g', j * 3 + 1, none⟩) hg').trans k2
        have k3 := (hb.cell (p := ⟨g', j * 3 + 2, none⟩) hg').trans k3
        have hs2 := HS.out (j + 1)
        have ht := HTk.out j x hx
        rw [ht] at hs2
        have hz := HZ.out x hxm
        have HX := Lib.hid ht
        clear ht hx
        by_cases hc0 : 0 ≤ x.c
        · obtain ⟨n, hn, hnl, hok⟩ := HKid.out x hxm hc0
          have hlo : liveOf M f x = live M f n.l := by simp [liveOf, hc0, itemsOf, hn]
          rw [hlo] at hs2
          obtain ⟨v, hv, b, iv, rfl, hob, hbh, hil⟩ := HT.out.node _ _ hn
          obtain ⟨A2, c2, rfl⟩ := itemsLen hil
          have hql : x.c.toNat < M.length := (List.getElem?_eq_some_iff.1 hn).1
          have m1 : wr.cell? ⟨g, x.c.toNat, none⟩ = some (.pointer (some ⟨b, 0, none⟩)) := (hb.cell (p := ⟨g, _, none⟩) (lt_of_heap HT.out.row)).trans (by rw [cell_of_row w g _ cs _ _ HT.out.row, hv])
          have m2 : wr.cell? ⟨b, 3, none⟩ = some (.slice A2 n.l.length c2) := (hb.cell (p := ⟨b, _, none⟩) (lt_of_heap hbh)).trans (nodeOpen hbh).2.2.2.1
          have HCall : ∀ w2, Below w.heap.size w w2 → Calls Try.prog 38 #[.pointer (some ⟨t, 0, none⟩), .slice A2 n.l.length c2] w2 fun e w' => e = .returned (.int .i64 (live M f n.l)) ∧ Below w2.heap.size w2 w' := fun w2 h2 =>
            HI.out n.l A2 c2 w2 (HT.out.same fun k _ hk => ⟨h2.block k hk, rfl⟩) hok hnl (row_same hil.1 fun k hk => h2.block k ((hil.1.lt k hk).2))
          have HCall := Lib.hid HCall
          have HLO := Lib.hid hlo
          clear hlo hil hbh hob hv hn hok
          generalize hq : x.c = q at *
          obtain ⟨y, rfl⟩ := Int.eq_ofNat_of_zero_le hc0
          rw [Int.toNat_natCast] at m1 hql
          generalize live M f n.l = V at *
          generalize live M (f + 1) (l.take j) = S at *
          generalize n.l.length = N at *
          clear hq hc0
          have n1 := World.new_ne wr _ hM1
          have n2 := World.new_ne wr _ m1
          have n3 := World.new_ne wr _ m2
          have l1 : t < wr.heap.size := World.block_lt_of_cell? wr _ hM1
          have l2 : g < wr.heap.size := World.block_lt_of_cell? wr _ m1
          have l3 : b < wr.heap.size := World.block_lt_of_cell? wr _ m2
          go_wp2_with fail
          go_region_held3 (fun w' => w'.cell? ⟨t, 0, none⟩ = some (.slice (some ⟨g, 0, none⟩) M.length cap) ∧ w'.cell? ⟨wr.heap.size, 2, none⟩ = some (.int .i64 y) ∧ w'.cell? ⟨g, y, none⟩ = some (.pointer (some ⟨b, 0, none⟩)) ∧ w'.cell? ⟨b, 3, none⟩ = some (.slice A2 N c2)) (first | go_keep | (refine ⟨(hb3.cell ?_).trans ?_, (hb3.cell ?_).trans ?_, (hb3.cell ?_).trans ?_, (hb3.cell ?_).trans ?_⟩ <;> first | (simp; omega) | go_keep))
            (first | (go_at_call 38; refine (HCall.out _ (by first | exact (hb.alloc hb.size _).drew | exact hb.alloc hb.size _)).mono ?_; rintro e w3 ⟨rfl, hb3⟩))
          go_wp2
          go_roundw
          case rel => exact ⟨j + 1, by omega, by go_num, by rw [HX.out, HLO.out, IntWalk.i64_in _ (by omega)], ((hb.alloc hb.size _).drew).trans (hb3.mono (by have := hb.size; simp; omega))⟩
          case measure => simp [intOf]; omega
        · have hlo : liveOf M f x = if x.c = -1 then x.s else 0 := by simp [liveOf, hc0]
          by_cases hc1 : x.c = -1
          · have hlo : liveOf M f x = x.s := by simp [hlo, hc1]
            rw [hlo] at hs2
            have HLO := Lib.hid hlo
            clear hlo hc0
            generalize live M (f + 1) (l.take j) = S at *
            rw [hc1] at k3
            generalize x.s = z at *
            clear hc1
            go_wp2
            go_roundw
            case rel => exact ⟨j + 1, by omega, by go_num, by rw [HX.out, HLO.out], hb.alloc hb.size _⟩
            case measure => simp [intOf]; omega
          · have hlo : liveOf M f x = 0 := by simp [hlo, hc1]
            rw [hlo] at hs2
            have HLO := Lib.hid hlo
            have hcb : (x.c == -1) = false := by rw [beq_eq_false_iff_ne]; exact hc1
            clear hlo hc1
            generalize live M (f + 1) (l.take j) = S at *
            go_wp2
            go_roundw
            case rel => exact ⟨j + 1, by omega, by go_num, by rw [HX.out, HLO.out]; simp, hb.alloc hb.size _⟩
            case measure => simp [intOf]; omega
      · obtain rfl : j = l.length := by omega
        rw [HE.out] at hs
        go_wp2
        go_ret
        exact ⟨by rw [← HE.out]; rfl, hb⟩

/-- What lives in an arena. -/
def liveIn (t : Tr) (f : Nat) (i : Int) : Int × Int := match find t i with
  | none => (0, 4)
  | some n => (live t f n.l, 0)

set_option maxHeartbeats 400000 in
theorem live_tree (w : World) (own : Nat → Option Nat) (t g cap : Nat) (cs : Array Value) (M : Tr) (i : Int) (f : Nat) (h : TreeAt w own t g cap cs M) (hg : Good M) (hf : ∀ n, find M i = some n → LiveOk M f n.l) :
    Calls Try.prog 17 #[.pointer (some ⟨t, 0, none⟩), .int .i64 i] w fun e w' => e = .returned (.tuple #[.int .i64 (liveIn M f i).1, .int .i64 (liveIn M f i).2]) ∧ Below w.heap.size w w' := by
  rcases find_cases w own t g cap cs M i h hg with ⟨hfi, hc⟩ | ⟨n, b, A, c, hfi, h0, hM, _, _, hb, hl, hok, hc⟩
  · have H := Lib.hid hc
    rw [show liveIn M f i = (0, 4) by simp [liveIn, hfi]]
    clear hc hf h hg hfi
    go_enter Try.func17, Try.ntmps17
    go_wp2_with (first | (go_at_call 37; refine H.out.mono ?_; rintro e w' ⟨rfl, rfl⟩))
    go_ret2
    exact ⟨rfl, Below.refl _ _⟩
  · have H := Lib.hid hc
    rw [show liveIn M f i = (live M f n.l, 0) by simp [liveIn, hfi]]
    have HL := Lib.hid (live_walk own t g cap cs M hg.len f n.l A c w h (hf n hfi) hok.len hl.1)
    obtain ⟨c0, c1, c2, c3, c4, _⟩ := nodeOpen hb
    generalize live M f n.l = V at *
    generalize n.l.length = L at *
    clear hc hf h hg hb hl hok hM hfi
    go_enter Try.func17, Try.ntmps17
    go_wp2_with (first | (go_at_call 37; refine H.out.mono ?_; rintro e w' ⟨rfl, rfl⟩) | (go_at_call 38; refine HL.out.mono ?_; rintro e w' ⟨rfl, hb1⟩))
    go_ret2
    exact ⟨rfl, hb1⟩
end Ne
end Go.Proofs.Ytllmddhahpegmaa
