/- The walks of Begin. -/
import Derived.Test.YtllmddhahpegmaaC
namespace Go.Proofs.Ytllmddhahpegmaa
open Go.RowKit
namespace Ne

theorem hole_lt {M : Tr} (h : hole M < M.length) : M[hole M]? = some none := by
  have := List.findIdx_getElem (w := h)
  rw [List.getElem?_eq_getElem h]
  cases e : M[hole M] with
  | none => rfl
  | some n => exact absurd this (by show ¬ (M[hole M]).isNone = true; rw [e]; simp)

theorem hole_before {M : Tr} {j : Nat} (h : j < hole M) : ∃ n, M[j]? = some (some n) := by
  have hl : j < M.length := Nat.lt_of_lt_of_le h List.findIdx_le_length
  have := List.not_of_lt_findIdx h
  rw [List.getElem?_eq_getElem hl]
  cases e : M[j] with
  | none => rw [e] at this; simp at this
  | some n => exact ⟨n, rfl⟩

theorem run_equalIn_nil_ptr (P : Program) (w : World) (d : Nat) (t e : TypeId) (p : Option Addr) (h : P.underlying t = some (.pointer e)) :
    (Op.equalIn (d + 1) t (.pointer none) (.pointer p)).run P w = .ok p.isNone w := by
  cases p <;> simp [Op.equalIn, run_underlying h]
theorem run_equal_nil_ptr (P : Program) (w : World) (t e : TypeId) (p : Option Addr) (h : P.underlying t = some (.pointer e)) :
    (Op.equal t (.pointer none) (.pointer p)).run P w = .ok p.isNone w := run_equalIn_nil_ptr P w 9999 t e p h
theorem run_eql_nil_ptr (P : Program) (w : World) (t e : TypeId) (p : Option Addr) (h : P.underlying t = some (.pointer e)) :
    (binOp .eql t (.pointer none) (.pointer p)).run P w = .ok (.bool p.isNone) w := by
  simp only [binOp]
  simp [run_equal_nil_ptr P w t e p h]

set_option maxHeartbeats 400000 in
theorem index_ok (w : World) (own : Nat → Option Nat) (t g cap : Nat) (cs : Array Value) (M : Tr) (h : TreeAt w own t g cap cs M) (hm : M.length ≤ 64) :
    Calls Try.prog 43 #[.slice (some ⟨g, 0, none⟩) M.length cap, .pointer none] w fun e w' => e = .returned (.int .i64 (if hole M < M.length then (hole M : Int) else -1)) ∧ w = w' := by
  have hc : ∀ j, j < M.length → (w.cell? ⟨g, j, none⟩ = some (.pointer none) ∧ M[j]? = some none) ∨ ∃ b, w.cell? ⟨g, j, none⟩ = some (.pointer (some ⟨b, 0, none⟩)) ∧ M[j]? ≠ some none := by
    intro j hj
    obtain ⟨o, ho⟩ : ∃ o, M[j]? = some o := ⟨_, List.getElem?_eq_getElem hj⟩
    obtain ⟨v, hv, hn⟩ := h.node j o ho
    have : w.cell? ⟨g, j, none⟩ = some v := by rw [cell_of_row w g _ cs _ _ h.row, hv]
    cases o with
    | none => have hn' : v = .pointer none := hn; subst hn'; exact .inl ⟨this, by simp [ho]⟩
    | some n => obtain ⟨b, iv, rfl, _⟩ := hn; exact .inr ⟨_, this, by simp [ho]⟩
  have hle : hole M ≤ M.length := List.findIdx_le_length
  have h1 : ∀ j, j < hole M → ∃ b, w.cell? ⟨g, j, none⟩ = some (.pointer (some ⟨b, 0, none⟩)) := by
    intro j hj
    obtain ⟨n, hn⟩ := hole_before hj
    rcases hc j (by omega) with ⟨_, h2⟩ | ⟨b, h1, _⟩
    · rw [hn] at h2; simp at h2
    · exact ⟨b, h1⟩
  have h2 : hole M < M.length → w.cell? ⟨g, hole M, none⟩ = some (.pointer none) := by
    intro hj
    rcases hc _ hj with ⟨h1, _⟩ | ⟨b, _, h2⟩
    · exact h1
    · exact absurd (hole_lt hj) h2
  clear hc h
  generalize hole M = k at *
  generalize M.length = L at *
  obtain ⟨r, hr⟩ : ∃ r : Int, r = if k < L then (k : Int) else -1 := ⟨_, rfl⟩
  rw [← hr]
  have HR := Lib.hid hr
  clear hr
  have he := fun w p => run_eql_nil_ptr Try.prog w 69 35 p Try.underlying69
  go_enter Try.func43, Try.ntmps43
  go_wp2
  go_loop [5, 8] (fun a i => ∃ j : Nat, j ≤ k ∧ i = .int .i64 j) (fun _ i => L - (intOf i).toNat)
  case atStart => exact ⟨0, Nat.zero_le _, rfl⟩
  case round =>
    obtain ⟨j, hj, rfl⟩ := hrel
    by_cases hlt : j < k
    · obtain ⟨p, hp⟩ := h1 j hlt
      clear h1 h2
      go_wp2
      go_round
      case rel => exact ⟨j + 1, by omega, by go_num⟩
      case measure => simp [intOf]; omega
    · obtain rfl : j = k := by omega
      by_cases hL : j < L
      · have hp := h2 hL
        clear h1 h2
        go_wp2
        go_ret
        exact ⟨by rw [HR.out, if_pos hL]; rfl, rfl⟩
      · clear h1 h2
        go_wp2
        go_ret
        exact ⟨by rw [HR.out, if_neg hL]; rfl, rfl⟩

theorem nodesRow {w : World} {own : Nat → Option Nat} {t g cap : Nat} {cs : Array Value} {M : Tr} (h : TreeAt w own t g cap cs M) :
    w.ownsRow 0 69 1 (.slice (some ⟨g, 0, none⟩) M.length cap) M.length (cs.toList.take M.length) := by
  have h1 := h.len
  have h2 := h.size
  exact ⟨by simp; omega, .inr ⟨g, cap, cs, rfl, Nat.zero_le _, h.row, h.len, h.most, by omega, by simp⟩⟩

/-- A place more in the row of arenas, behind append and the store of the slice. -/
theorem push_nil {w w2 w1 : World} {own : Nat → Option Nat} {t g cap : Nat} {cs : Array Value} {M : Tr} {g' cap' : Nat} (h : TreeAt w own t g cap cs M)
    (h2 : Below w.heap.size w w2)
    (hown : w1.ownsRow 0 69 1 (.slice (some ⟨g', 0, none⟩) (M.length + 1) cap') (M.length + 1) (cs.toList.take M.length ++ [.pointer none])) (hg : w2.grownBy w1 (some g)) (hat : some g = some g' ∨ g' = w2.heap.size) :
    ∃ own' cs', TreeAt (w1.setCell ⟨t, 0, none⟩ (.slice (some ⟨g', 0, none⟩) (M.length + 1) cap')) own' t g' cap' cs' (M ++ [none]) ∧
      Keeps own own' w (w1.setCell ⟨t, 0, none⟩ (.slice (some ⟨g', 0, none⟩) (M.length + 1) cap')) ∧ ∀ j, j < M.length → cs'[j]? = cs[j]? := by
  rcases hown.2 with ⟨e, _⟩ | ⟨g'', cap'', cur, hv, _, hgg, hlc, hcm, hcs, htake⟩
  · cases e
  injection hv with hv1 hv2 hv3
  injection hv1 with hv1
  injection hv1 with hv1 _ _
  subst hv1; subst hv3
  have hT := lt_of_heap h.top
  have hG := lt_of_heap h.row
  have hne : t ≠ g := fun e => by have := h.ownT; rw [e, h.ownG] at this; simp at this
  have hl := h.len
  have hs := h.size
  have h2s := h2.size
  have htg : t ≠ g' := by
    rcases hat with hat | hat
    · injection hat with hat; rw [← hat]; exact hne
    · omega
  have hk : ∀ k, k < w.heap.size → k ≠ g → k ≠ t → (w1.setCell ⟨t, 0, none⟩ (.slice (some ⟨g', 0, none⟩) (M.length + 1) cap')).heap[k]? = w.heap[k]? := by
    intro k h1 h3 h4
    rw [setCell_far _ _ _ _ h4, hg.block k (by omega) (fun e => h3 (by injection e)), h2.block k h1]
  have hcur : ∀ j, j < M.length + 1 → cur[j]? = (cs.toList.take M.length ++ [Value.pointer none])[j]? := by
    intro j hj
    rw [← htake, List.getElem?_take, if_pos (by omega)]
    simp
  refine ⟨fun k => if k = g' then some 1 else own k, cur, ⟨?_, ?_, ?_, ?_, by omega, by simpa using hlc, hcm, ?_⟩, ⟨hg.os.trans h2.os, hg.tape.trans h2.tape, hg.output.trans h2.output, by rw [setCell_size]; exact Nat.le_trans h2s hg.size, ?_, ?_, ?_⟩, ?_⟩
  · show (if t = g' then _ else own t) = _
    rw [if_neg htg]; exact h.ownT
  · exact if_pos rfl
  · have h1t : w1.heap[t]? = some (.cells #[.slice (some ⟨g, 0, none⟩) M.length cap] 68 (0, 0)) := by
      rw [hg.block t (by omega) (fun e => hne (by injection e)), h2.block t hT]; exact h.top
    rw [setCell_at _ _ _ _ _ _ h1t]
    simp
  · rw [setCell_far _ _ _ _ (fun e => htg e.symm)]; exact hgg
  · intro j o hj
    have hjl : j < M.length + 1 := by have := (List.getElem?_eq_some_iff.1 hj).1; simpa using this
    by_cases e : j = M.length
    · subst e
      have : o = none := by simpa using hj.symm
      subst this
      have htl : (cs.toList.take M.length).length = M.length := by simp; omega
      exact ⟨.pointer none, by rw [hcur _ hjl, List.getElem?_append_right (by omega), htl, Nat.sub_self]; rfl, rfl⟩
    · have hjM : M[j]? = some o := by rw [List.getElem?_append_left (by omega)] at hj; exact hj
      obtain ⟨v, hv, hn⟩ := h.node j o hjM
      refine ⟨v, by rw [hcur _ hjl, List.getElem?_append_left (by simp; omega), List.getElem?_take, if_pos (by omega)]; simpa using hv, hn.same fun k hk' hs' => ⟨hk k hs' ?_ ?_, ?_⟩⟩
      · intro e'; subst e'; rw [h.ownG] at hk'; simp at hk'
      · intro e'; subst e'; rw [h.ownT] at hk'; simp at hk'
      · show (if k = g' then _ else own k) = own k
        split
        · next e' =>
          rcases hat with hat | hat
          · injection hat with hat; rw [e', ← hat, h.ownG] at hk'; simp at hk'
          · omega
        · rfl
  · intro k h1 h3
    refine hk k h1 ?_ ?_
    · intro e'; subst e'; rw [h.ownG] at h3; cases h3
    · intro e'; subst e'; rw [h.ownT] at h3; cases h3
  · intro k h1
    show (if k = g' then _ else own k) = own k
    split
    · next e' =>
      rcases hat with hat | hat
      · injection hat with hat; rw [e', ← hat, h.ownG]
      · omega
    · rfl
  · intro k h1
    by_cases e : k = g'
    · subst e
      rcases hat with hat | hat
      · injection hat with hat; exact .inl (by rw [← hat, h.ownG]; simp)
      · exact .inr ⟨by omega, by rw [setCell_size]; exact lt_of_heap hgg⟩
    · have h1' : (if k = g' then some 1 else own k) ≠ none := h1
      rw [if_neg e] at h1'
      exact .inl h1'
  · intro j hj
    rw [hcur j (by omega), List.getElem?_append_left (by simp; omega), List.getElem?_take, if_pos hj]
    simp

end Ne
end Go.Proofs.Ytllmddhahpegmaa
