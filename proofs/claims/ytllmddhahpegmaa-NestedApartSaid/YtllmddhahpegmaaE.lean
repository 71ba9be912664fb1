/- The walk of Begin. -/
import Derived.Test.YtllmddhahpegmaaD
import Derived.Deep.Cut
namespace Go.Proofs.Ytllmddhahpegmaa
open Go.RowKit
namespace Ne

/-- A new arena's block is laid, and its pointer is stored. -/
theorem put_node_ {w : World} {own : Nat → Option Nat} {t g cap : Nat} {cs : Array Value} {M : Tr} {k : Nat} {n : Node} (h : TreeAt w own t g cap cs M) (hk : k < M.length) (hn : n.l = []) :
    ∃ own', Tree ((w.alloc (NodeCells n (.slice none 0 0))).setCell ⟨g, k, none⟩ (.pointer (some ⟨w.heap.size, 0, none⟩))) own' t (M.set k (some n)) ∧
      Keeps own own' w ((w.alloc (NodeCells n (.slice none 0 0))).setCell ⟨g, k, none⟩ (.pointer (some ⟨w.heap.size, 0, none⟩))) := by
  have hG := lt_of_heap h.row
  have hne : w.heap.size ≠ g := by omega
  have hold : ∀ j, j < w.heap.size → j ≠ g → ((w.alloc (NodeCells n (.slice none 0 0))).setCell ⟨g, k, none⟩ (.pointer (some ⟨w.heap.size, 0, none⟩))).heap[j]? = w.heap[j]? := by
    intro j hj hjg
    rw [setCell_far _ _ _ _ hjg, heapAlloc, if_neg (by omega)]
  refine ⟨fun j => if j = w.heap.size then some (2 * k + 2) else own j, ⟨g, cap, _, h.setPtr hk (fun j h1 h2 h3 => hold j h3 h2) (fun j hj => if_neg (by omega)) ?_ ⟨w.heap.size, .slice none 0 0, rfl, if_pos rfl, ?_, ?_⟩⟩,
    rfl, rfl, rfl, by rw [setCell_size]; simp, fun j h1 h2 => hold j h1 (fun e => by rw [e, h.ownG] at h2; cases h2), fun j hj => if_neg (by omega), fun j h1 => by
      by_cases e : j = w.heap.size
      · exact .inr ⟨by omega, by rw [setCell_size]; simp; omega⟩
      · have h1' : (if j = w.heap.size then some (2 * k + 2) else own j) ≠ none := h1
        rw [if_neg e] at h1'
        exact .inl h1'⟩
  · exact setCell_at _ _ _ _ _ _ (by rw [heapAlloc, if_neg (by omega)]; exact h.row)
  · rw [setCell_far _ _ _ _ hne, heapAlloc, if_pos rfl]
  · rw [hn]
    exact ⟨World.ownsRow_nil _ _ _ _, fun g' hg' => by simp [Value.ownBlock] at hg'⟩

theorem put_node {w : World} {own : Nat → Option Nat} {t g cap : Nat} {cs : Array Value} {M : Tr} {k : Nat} {n : Node} (h : TreeAt w own t g cap cs M) (hk : k < M.length) (hn : n.l = []) :
    ∃ own', Tree ((w.setCell ⟨g, k, none⟩ (.pointer (some ⟨w.heap.size, 0, none⟩))).alloc (NodeCells n (.slice none 0 0))) own' t (M.set k (some n)) ∧
      Keeps own own' w ((w.setCell ⟨g, k, none⟩ (.pointer (some ⟨w.heap.size, 0, none⟩))).alloc (NodeCells n (.slice none 0 0))) := by
  have := put_node_ h hk hn
  rw [World.setCell_alloc_past _ _ _ _ (lt_of_heap h.row)] at this
  exact this

theorem begin_err (w : World) (t : Nat) (i sz al E : Int) (hE : E ≠ 0)
    (hG : Calls Try.prog 36 #[.pointer (some ⟨t, 0, none⟩), .int .i64 i, .int .i64 sz, .int .i64 al] w fun e w' => e = .returned (.tuple #[.pointer none, .int .i64 0, .int .i64 E]) ∧ ∃ k, w' = w.drewN k) :
    Calls Try.prog 22 #[.pointer (some ⟨t, 0, none⟩), .int .i64 i, .int .i64 sz, .int .i64 al] w fun e w' => e = .returned (.tuple #[.int .i64 0, .int .i64 E]) ∧ ∃ k, w' = w.drewN k := by
  have H := Lib.hid hG
  clear hG
  have hE' : (E != 0) = true := by rw [bne_iff_ne]; exact hE
  clear hE
  go_enter Try.func22, Try.ntmps22
  go_wp2_with (first | (go_at_call 36; refine H.out.mono ?_; rintro e w' ⟨rfl, k, rfl⟩))
  go_ret2
  exact ⟨rfl, _, rfl⟩

set_option maxRecDepth 100000 in
set_option maxHeartbeats 1000000 in
theorem begin_ok (w : World) (own : Nat → Option Nat) (t g cap : Nat) (cs : Array Value) (M : Tr) (i sz al U : Int) (n : Node) (b : Nat) (_ : Option Addr) (_ : Nat) (h : TreeAt w own t g cap cs M) (hm : M.length ≤ 64)
    (hi : M[i.toNat]? = some (some n)) (_ : 0 ≤ i) (hc : cs[i.toNat]? = some (.pointer (some ⟨b, 0, none⟩))) (hlen : n.l.length < 200)
    (hG : Calls Try.prog 36 #[.pointer (some ⟨t, 0, none⟩), .int .i64 i, .int .i64 sz, .int .i64 al] w fun e w' => e = .returned (.tuple #[.pointer (some ⟨b, 0, none⟩), .int .i64 U, .int .i64 0]) ∧ ∃ k, w' = w.drewN k) :
    Calls Try.prog 22 #[.pointer (some ⟨t, 0, none⟩), .int .i64 i, .int .i64 sz, .int .i64 al] w fun e w' => e = .returned (if hole M = 64 then .tuple #[.int .i64 0, .int .i64 5] else .tuple #[.int .i64 (hole M), .int .i64 0]) ∧
      ∃ own', Tree w' own' t (if hole M = 64 then M else (addItem (room M (hole M)) i.toNat ⟨U, sz, hole M⟩).set (hole M) (some ⟨i, U, sz, []⟩)) ∧ Keeps own own' w w' := by
  have H := Lib.hid hG
  obtain ⟨i0, z0, hi0, hz0, hz1, hz2, hz3⟩ := info_open item_info
  have hX := fun k => Lib.hid (index_ok (w.drewN k) own t g cap cs M (h.same fun k _ _ => ⟨rfl, rfl⟩) hm)
  have hle : hole M ≤ M.length := List.findIdx_le_length
  have hT : w.cell? ⟨t, 0, none⟩ = some (.slice (some ⟨g, 0, none⟩) M.length cap) := by simp [World.cell?, h.top]
  by_cases hk : hole M < M.length
  · have hne : hole M ≠ 64 := by omega
    rw [if_neg hne, if_neg hne]
    rw [if_pos hk] at hX
    go_enter Try.func22, Try.ntmps22
    go_upto_region 10 with (first | (go_at_call 36; refine H.out.mono ?_; rintro e w' ⟨rfl, k, rfl⟩) | (go_at_call 43; refine (hX _).out.mono ?_; rintro e w' ⟨rfl, rfl⟩))
    have h3 : TreeAt (w.drewN k) own t g cap cs M := h.same fun k _ _ => ⟨rfl, rfl⟩
    have hK3 : Keeps own own w (w.drewN k) := .drewN own w k
    obtain ⟨M3, hM3⟩ : ∃ M3, M3 = room M (hole M) := ⟨_, rfl⟩
    have hMM : M3 = M := by rw [hM3, room, if_pos hk]
    have hlM : hole M < M3.length := by rw [hMM]; exact hk
    have hi3 : M3[i.toNat]? = some (some n) := by rw [hMM]; exact hi
    obtain ⟨g3, hg3⟩ : ∃ x, x = g := ⟨_, rfl⟩
    obtain ⟨cap3, hcap3⟩ : ∃ x, x = cap := ⟨_, rfl⟩
    obtain ⟨cs3, hcs3⟩ : ∃ x, x = cs := ⟨_, rfl⟩
    have hc3 : cs3[i.toNat]? = some (.pointer (some ⟨b, 0, none⟩)) := by rw [hcs3]; exact hc
    rw [← hMM, ← hg3, ← hcap3, ← hcs3] at h3
    obtain ⟨own3, ho3⟩ : ∃ own3, own3 = own := ⟨_, rfl⟩
    rw [← ho3] at h3
    rw [show Keeps own own w (w.drewN k) = Keeps own own3 w (w.drewN k) by rw [ho3]] at hK3
    clear H hX h hT hi hc hG ho3 hg3 hcap3 hcs3 hMM
    generalize (w.drewN k) = w3 at *
    obtain ⟨hob3, iv3, hb3, hl3⟩ := nodeOwn h3 hi3 hc3
    obtain ⟨A3, c3, rfl⟩ := itemsLen hl3
    obtain ⟨d0, d1, d2, d3, d4, df⟩ := nodeOpen hb3
    have hbl3 := lt_of_heap hb3
    have hne3 : (Value.slice A3 n.l.length c3).ownBlock ≠ some b := fun e => by have := hl3.2 b e; rw [hob3] at this; simp at this
    have HP := fun w2 w1 g' cap' => Lib.hid (@push_item w3 w2 w1 own3 t g3 cap3 cs3 M3 i.toNat b n (.slice A3 n.l.length c3) ⟨U, sz, hole M⟩ g' cap' h3 hi3 hc3 hb3 hl3)
    have hrow3 := hl3.1
    have hadd : addItem M3 i.toNat ⟨U, sz, hole M⟩ = M3.set i.toNat (some { n with l := n.l ++ [⟨U, sz, hole M⟩] }) := addItem_eq hi3 _
    have HM3 := Lib.hid (And.intro hM3 hadd)
    have HK3 := Lib.hid hK3
    have HL := Lib.hid hlM
    clear hadd hM3 hl3 h3 hc3 hi3 hob3 hK3 hlM
    generalize hL : n.l.length = L at *
    clear hL
    go_upto_region 11 with (first |
      (at_builtin; refine wpList_append_lies _ rfl (.tmp 51) (.tmp 56) _ rfl 0 54 i0 z0 3 24 Try.underlying33 hi0 hz0 hz1 hz2 hz3 (by omega) (.slice A3 L c3) L (icells n.l) rfl (hrow3.alloc _) ⟨w3.heap.size, 0, none⟩ 1 1 (Item.cells ⟨U, sz, hole M⟩) rfl rfl (World.news_of_block (heap_alloc_new _ _)) (by simp [Item.cells, Value.oneCell']) (by omega) (by unfold maxLen; omega) (by omega) (Nat.zero_le _) (w3.heap.size + 1) (by simp) ?_
       intro g' cap' w1 hown1 hgrow1 hat1 hlt1
       have q1 : w1.cell? ⟨b, 3, none⟩ = some (.slice A3 L c3) := (hgrow1.cell_far ⟨b, 3, none⟩ (by simp; omega) hne3.symm).trans ((World.cell?_alloc_lt _ _ _ hbl3).trans d3)
       have q2 : w1.frozen? ⟨b, 3, none⟩ = false := (hgrow1.frozen_far ⟨b, 3, none⟩ (by simp; omega) hne3.symm).trans ((World.frozen?_alloc_old _ _ _ (Nat.ne_of_lt hbl3)).trans (df 3))))
    obtain ⟨own4, h4, hK4⟩ := (HP _ w1 g' cap').out ((Below.refl _ w3).alloc (Nat.le_refl _) _) hown1 hgrow1 (hat1.elim .inl (fun e => .inr (by simp [e])))
    clear HP hown1 hgrow1 hat1 hlt1 q1 q2 hrow3 hne3 d0 d1 d2 d3 d4 df hb3 hbl3
    generalize (w1.setCell ⟨b, 3, none⟩ (.slice (some ⟨g', 0, none⟩) (L + 1) cap')) = w4 at *
    have hlM4 : hole M < (M3.set i.toNat (some { n with l := n.l ++ [⟨U, sz, hole M⟩] })).length := by rw [List.length_set]; exact HL.out
    obtain ⟨own5, h5, hK5⟩ := put_node (n := ⟨i, U, sz, []⟩) h4 hlM4 rfl
    rw [← HM3.out.2, HM3.out.1] at h5
    have HF := Lib.hid (And.intro h5 ((HK3.out.trans hK4).trans hK5))
    have e1 : w4.cell? ⟨t, 0, none⟩ = some (.slice (some ⟨g3, 0, none⟩) M3.length cap3) := by simp [World.cell?, h4.top]
    have hsz := h4.size
    have hcapl := h4.len
    rw [List.length_set] at hcapl
    have e2 : ∃ v, w4.cell? ⟨g3, hole M, none⟩ = some v := by
      rw [cell_of_row w4 g3 _ _ _ _ h4.row]
      rw [List.length_set] at hlM4
      exact ⟨_, Array.getElem?_eq_getElem (by omega)⟩
    obtain ⟨v2, e2⟩ := e2
    have e3 : w4.frozen? ⟨g3, hole M, none⟩ = false := by simp [World.frozen?, h4.row]
    have hgl := lt_of_heap h4.row
    have htl := lt_of_heap h4.top
    have hlM5 := HL.out
    clear h4 hK4 hlM4 h5 hK5 hsz
    generalize M3.length = N3 at *
    go_wp2
    go_ret2
    exact ⟨rfl, own5, HF.out.1, HF.out.2⟩
  · have hke : hole M = M.length := by omega
    rw [if_neg hk] at hX
    by_cases h64 : hole M = 64
    · rw [if_pos h64, if_pos h64]
      have h64' : ((M.length : Int) == 64) = true := by rw [beq_iff_eq]; omega
      have hF : Tree w own t M := ⟨g, cap, cs, h⟩
      have HF := fun k => Lib.hid (And.intro (hF.drewN k) (Keeps.drewN own w k))
      clear h64 hke hk hle hF h hi hc hG
      generalize M.length = L at *
      go_enter Try.func22, Try.ntmps22
      go_wp2_with (first | (go_at_call 36; refine H.out.mono ?_; rintro e w' ⟨rfl, k, rfl⟩) | (go_at_call 43; refine (hX _).out.mono ?_; rintro e w' ⟨rfl, rfl⟩))
      go_ret2
      exact ⟨rfl, own, (HF k).out.1, (HF k).out.2⟩
    · rw [if_neg h64, if_neg h64]
      have h64' : ((M.length : Int) == 64) = false := by rw [beq_eq_false_iff_ne]; omega
      obtain ⟨p0, pz, hp0, hpz, hp1, hp2, hp3⟩ := info_open ptr_info
      have hrow := nodesRow h
      have HN := fun w2 w1 g' cap' => Lib.hid (@push_nil w w2 w1 own t g cap cs M g' cap' h)
      have htl := lt_of_heap h.top
      have htf : w.frozen? ⟨t, 0, none⟩ = false := by simp [World.frozen?, h.top]
      have hgt : g ≠ t := fun e => by have := h.ownT; rw [← e, h.ownG] at this; simp at this
      have HM := Lib.hid (And.intro hi hc)
      have hiM : i.toNat < M.length := (List.getElem?_eq_some_iff.1 hi).1
      have hKe := hke
      clear h64 hke hk hle h hi hc hG
      generalize hL : M.length = L at *
      have HLL := Lib.hid hL
      clear hL
      generalize hole M = K at *
      have hKL : L = K := hKe.symm
      subst hKL
      clear hKe
      go_enter Try.func22, Try.ntmps22
      go_upto_region 10 with (first | (go_at_call 36; refine H.out.mono ?_; rintro e w' ⟨rfl, k, rfl⟩) | (go_at_call 43; refine (hX _).out.mono ?_; rintro e w' ⟨rfl, rfl⟩) |
        (at_builtin; refine wpList_append_lies _ rfl (.tmp 42) (.tmp 43) _ rfl 0 69 p0 pz 1 8 Try.underlying66 hp0 hpz hp1 hp2 hp3 (by omega) (.slice (some ⟨g, 0, none⟩) L cap) L (cs.toList.take L) rfl (hrow.alloc _) ⟨w.heap.size, 0, none⟩ 1 1 [.pointer none] rfl rfl (World.news_of_block (heap_alloc_new _ _)) (by simp [Value.oneCell']) (by omega) (by unfold maxLen; omega) (by omega) (Nat.zero_le _) (w.heap.size + 1) (by simp) ?_
         intro gg capg wg hown1 hgrow1 hat1 hlt1
         have q1 : wg.cell? ⟨t, 0, none⟩ = some (.slice (some ⟨g, 0, none⟩) L cap) := (hgrow1.cell_far ⟨t, 0, none⟩ (by simp; omega) (by simp [Value.ownBlock]; exact fun e => hgt e.symm)).trans ((World.cell?_alloc_lt _ _ _ htl).trans hT)
         have q2 : wg.frozen? ⟨t, 0, none⟩ = false := (hgrow1.frozen_far ⟨t, 0, none⟩ (by simp; omega) (by simp [Value.ownBlock]; exact fun e => hgt e.symm)).trans ((World.frozen?_alloc_old _ _ _ (Nat.ne_of_lt htl)).trans htf)))
      obtain ⟨own3, cs3, h3, hK3, hcc⟩ := (HN _ wg gg capg).out ((below_drewN (Below.refl _ w) k).alloc (Nat.le_refl _) _) hown1 hgrow1 (hat1.elim .inl (fun e => .inr (by simp [e])))
      obtain ⟨M3, hM3⟩ : ∃ M3, M3 = room M (L) := ⟨_, rfl⟩
      have hMM : M3 = M ++ [none] := by rw [hM3, room, if_neg (by rw [HLL.out]; omega)]
      have hlM : L < M3.length := by rw [hMM]; simp [HLL.out]
      have hi3 : M3[i.toNat]? = some (some n) := by rw [hMM, List.getElem?_append_left (by rw [HLL.out]; exact hiM)]; exact HM.out.1
      have hc3 : cs3[i.toNat]? = some (.pointer (some ⟨b, 0, none⟩)) := by rw [hcc _ hiM]; exact HM.out.2
      rw [← hMM] at h3
      obtain ⟨g3, hg3⟩ : ∃ x, x = gg := ⟨_, rfl⟩
      obtain ⟨cap3, hcap3⟩ : ∃ x, x = capg := ⟨_, rfl⟩
      rw [← hg3, ← hcap3] at h3
      rw [← hg3, ← hcap3] at hK3
      rw [← hg3, ← hcap3]
      clear H hX hT hrow HN htf hgt HM hiM hcc hMM hown1 hgrow1 hat1 hlt1 q1 q2 hg3 hcap3 h64'
      generalize (wg.setCell ⟨t, 0, none⟩ (.slice (some ⟨g3, 0, none⟩) (L + 1) cap3)) = w3 at *
      obtain ⟨hob3, iv3, hb3, hl3⟩ := nodeOwn h3 hi3 hc3
      obtain ⟨A3, c3, rfl⟩ := itemsLen hl3
      obtain ⟨d0, d1, d2, d3, d4, df⟩ := nodeOpen hb3
      have hbl3 := lt_of_heap hb3
      have hne3 : (Value.slice A3 n.l.length c3).ownBlock ≠ some b := fun e => by have := hl3.2 b e; rw [hob3] at this; simp at this
      have HP := fun w2 w1 g' cap' => Lib.hid (@push_item w3 w2 w1 own3 t g3 cap3 cs3 M3 i.toNat b n (.slice A3 n.l.length c3) ⟨U, sz, L⟩ g' cap' h3 hi3 hc3 hb3 hl3)
      have hrow3 := hl3.1
      have hadd : addItem M3 i.toNat ⟨U, sz, L⟩ = M3.set i.toNat (some { n with l := n.l ++ [⟨U, sz, L⟩] }) := addItem_eq hi3 _
      have HM3 := Lib.hid (And.intro hM3 hadd)
      have HK3 := Lib.hid hK3
      have HL := Lib.hid hlM
      clear hadd hM3 hl3 h3 hc3 hi3 hob3 hK3 hlM
      generalize hL2 : n.l.length = L2 at *
      clear hL2
      go_upto_region 11 with (first |
        (at_builtin; refine wpList_append_lies _ rfl (.tmp 51) (.tmp 56) _ rfl 0 54 i0 z0 3 24 Try.underlying33 hi0 hz0 hz1 hz2 hz3 (by omega) (.slice A3 L2 c3) L2 (icells n.l) rfl (hrow3.alloc _) ⟨w3.heap.size, 0, none⟩ 1 1 (Item.cells ⟨U, sz, L⟩) rfl rfl (World.news_of_block (heap_alloc_new _ _)) (by simp [Item.cells, Value.oneCell']) (by omega) (by unfold maxLen; omega) (by omega) (Nat.zero_le _) (w3.heap.size + 1) (by simp) ?_
         intro g' cap' w1 hown1 hgrow1 hat1 hlt1
         have q1 : w1.cell? ⟨b, 3, none⟩ = some (.slice A3 L2 c3) := (hgrow1.cell_far ⟨b, 3, none⟩ (by simp; omega) hne3.symm).trans ((World.cell?_alloc_lt _ _ _ hbl3).trans d3)
         have q2 : w1.frozen? ⟨b, 3, none⟩ = false := (hgrow1.frozen_far ⟨b, 3, none⟩ (by simp; omega) hne3.symm).trans ((World.frozen?_alloc_old _ _ _ (Nat.ne_of_lt hbl3)).trans (df 3))))
      obtain ⟨own4, h4, hK4⟩ := (HP _ w1 g' cap').out ((Below.refl _ w3).alloc (Nat.le_refl _) _) hown1 hgrow1 (hat1.elim .inl (fun e => .inr (by simp [e])))
      clear HP hown1 hgrow1 hat1 hlt1 q1 q2 hrow3 hne3 d0 d1 d2 d3 d4 df hb3 hbl3
      generalize (w1.setCell ⟨b, 3, none⟩ (.slice (some ⟨g', 0, none⟩) (L2 + 1) cap')) = w4 at *
      have hlM4 : L < (M3.set i.toNat (some { n with l := n.l ++ [⟨U, sz, L⟩] })).length := by rw [List.length_set]; exact HL.out
      obtain ⟨own5, h5, hK5⟩ := put_node (n := ⟨i, U, sz, []⟩) h4 hlM4 rfl
      rw [← HM3.out.2, HM3.out.1] at h5
      have HF := Lib.hid (And.intro h5 ((HK3.out.trans hK4).trans hK5))
      have e1 : w4.cell? ⟨t, 0, none⟩ = some (.slice (some ⟨g3, 0, none⟩) M3.length cap3) := by simp [World.cell?, h4.top]
      have hsz := h4.size
      have hcapl := h4.len
      rw [List.length_set] at hcapl
      have e2 : ∃ v, w4.cell? ⟨g3, L, none⟩ = some v := by
        rw [cell_of_row w4 g3 _ _ _ _ h4.row]
        rw [List.length_set] at hlM4
        exact ⟨_, Array.getElem?_eq_getElem (by omega)⟩
      obtain ⟨v2, e2⟩ := e2
      have e3 : w4.frozen? ⟨g3, L, none⟩ = false := by simp [World.frozen?, h4.row]
      have hgl := lt_of_heap h4.row
      have htl := lt_of_heap h4.top
      have hlM5 := HL.out
      clear h4 hK4 hlM4 h5 hK5 hsz
      generalize M3.length = N3 at *
      go_wp2
      go_ret2
      exact ⟨rfl, own5, HF.out.1, HF.out.2⟩

theorem begin_tree (w : World) (own : Nat → Option Nat) (t : Nat) (M : Tr) (i sz al : Int) (h : Tree w own t M) (hg : Good M) :
    Calls Try.prog 22 #[.pointer (some ⟨t, 0, none⟩), .int .i64 i, .int .i64 sz, .int .i64 al] w
      (Does w own t (begin_ M i sz al).1 (.tuple #[.int .i64 (begin_ M i sz al).2.1, .int .i64 (begin_ M i sz al).2.2])) := by
  obtain ⟨g, cap, cs, h⟩ := h
  have hG := give_tree w own t g cap cs M i sz al h hg
  by_cases hE : (give M i sz al).2 = 0
  · rcases find_cases w own t g cap cs M i h hg with ⟨hf, _⟩ | ⟨n, b, A, c, hf, h0, hM, hc, hob, hb, hl, hok, _⟩
    · have : (give M i sz al).2 = 4 := by simp [give, hf]
      omega
    · have hlen : n.l.length < 200 := by
        have := hok.len
        have : ¬ n.l.length = 200 := fun e => by
          simp only [give, hf] at hE
          split at hE
          · simp at hE
          · rw [if_pos (.inr e)] at hE; simp at hE
        omega
      refine (begin_ok w own t g cap cs M i sz al (give M i sz al).1 n b A c h hg.len hM h0 hc hlen (hG.mono ?_)).mono ?_
      · rintro e w' ⟨⟨h1, _⟩ | ⟨n', b', iv', h1, _, _, h4, _, _, _, h5, _, _, _, h6⟩, hk⟩
        · exact absurd hE h1
        · rw [hc] at h4
          injection h4 with h4; injection h4 with h4; injection h4 with h4; injection h4 with h4
          subst h4
          exact ⟨by rw [h6, h5], hk⟩
      · rintro e w' ⟨rfl, own', hT, hK⟩
        unfold begin_
        rw [if_pos hE]
        by_cases h64 : hole M = 64
        · rw [if_pos h64] at hT ⊢
          rw [if_pos h64]
          exact ⟨rfl, own', hT, hK⟩
        · rw [if_neg h64] at hT ⊢
          rw [if_neg h64]
          exact ⟨rfl, own', hT, hK⟩
  · have hal : begin_ M i sz al = (M, 0, (give M i sz al).2) := if_neg hE
    rw [hal]
    refine (begin_err w t i sz al _ hE (hG.mono ?_)).mono ?_
    · rintro e w' ⟨⟨_, h1⟩ | ⟨n', b', iv', h1, _, _, h4, _, _, _, h5, _⟩, hk⟩
      · exact ⟨h1, hk⟩
      · exact absurd (by rw [h5]) hE
    · rintro e w' ⟨rfl, k, rfl⟩
      exact ⟨rfl, own, Tree.drewN ⟨g, cap, cs, h⟩ k, .drewN own w k⟩
end Ne
end Go.Proofs.Ytllmddhahpegmaa
