/- The plain laws on trees: the root keeps its size. -/
import Derived.Test.YtllmddhahpegmaaPlain6
namespace Go.Proofs.Ytllmddhahpegmaa
namespace Ne

def RootS (M : Tr) (z : Int) : Prop := ∃ r, M[0]? = some (some r) ∧ r.s = z

theorem RootS.set {M : Tr} {z : Int} (h : RootS M z) {i : Nat} {n : Node} {l : List Item} (hi : M[i]? = some (some n)) : RootS (M.set i (some { n with l := l })) z := by
  obtain ⟨r, hr, hs⟩ := h
  have hl := (List.getElem?_eq_some_iff.1 hi).1
  by_cases e : i = 0
  · subst e
    rw [hi] at hr
    injection hr with hr
    injection hr with hr
    subst hr
    exact ⟨_, List.getElem?_set_self hl, hs⟩
  · exact ⟨r, by rw [List.getElem?_set_ne e]; exact hr, hs⟩

theorem RootS.addItem {M : Tr} {z : Int} (h : RootS M z) (i : Nat) (x : Item) : RootS (addItem M i x) z := by
  unfold Ne.addItem
  split
  · next hi => exact h.set hi
  · exact h

theorem RootS.alloc {M : Tr} {z : Int} (h : RootS M z) (i sz al : Int) : RootS (alloc M i sz al).1 z := by
  unfold Ne.alloc
  split
  · exact h.addItem _ _
  · exact h

theorem RootS.begin_ {M : Tr} {z : Int} (h : RootS M z) (i sz al : Int) : RootS (begin_ M i sz al).1 z := by
  unfold Ne.begin_
  split
  · split
    · exact h
    · have h0 : hole M ≠ 0 := fun e => by
        obtain ⟨r, hr, _⟩ := h
        rw [← e] at hr
        exact hole_at hr
      have h1 : RootS (room M (hole M)) z := by
        unfold room
        split
        · exact h
        · obtain ⟨r, hr, hs⟩ := h
          exact ⟨r, by rw [List.getElem?_append_left (List.getElem?_eq_some_iff.1 hr).1]; exact hr, hs⟩
      obtain ⟨r, hr, hs⟩ := h1.addItem i.toNat ⟨(give M i sz al).1, sz, hole M⟩
      exact ⟨r, by rw [List.getElem?_set_ne h0]; exact hr, hs⟩
  · exact h

theorem RootS.rewind {M : Tr} {z : Int} (h : RootS M z) (hg : Good M) {F : Nat} (hF : Big M F) (i m : Int) : RootS (rewindTo M F i m).1 z := by
  obtain ⟨d, D, hr, hD⟩ := hF
  unfold rewindTo
  cases hf : find M i with
  | none => exact h
  | some n =>
    obtain ⟨h0, hi⟩ := find_some hf
    dsimp only
    split
    · exact h
    · have hsub := List.drop_sublist m.toNat n.l
      obtain ⟨_, _, s3⟩ := shut_good hg hr hi hsub (F := F) (by omega)
      have hgi := not_gone hg hr hi hsub
      have hg0 := root_stays hg hi hsub
      obtain ⟨r, hr0, hs⟩ := h
      have h1 : RootS (trim (shut F M (n.l.drop m.toNat))) z := ⟨r, trim_open.2 ((s3 0 hg0).trans hr0), hs⟩
      exact h1.set (trim_open.2 ((s3 _ hgi).trans hi))

theorem RootS.stop {M : Tr} {z : Int} (h : RootS M z) (hg : Good M) {F : Nat} (hF : Big M F) (i : Int) : RootS (stopAt M F i).1 z := by
  obtain ⟨d, D, hr, hD⟩ := hF
  unfold stopAt
  cases hf : find M i with
  | none => exact h
  | some n =>
    obtain ⟨h0, hi⟩ := find_some hf
    dsimp only
    split
    · exact h
    · next hi0 =>
      obtain ⟨hp, q, x, hq, hx, hxc, _⟩ := stop_finds hg hi (by omega)
      rw [show ((i.toNat : Nat) : Int) = i by omega] at hx hxc
      rw [hq]
      dsimp only
      rw [hx]
      dsimp only
      have hsub : [x].Sublist q.l := List.singleton_sublist.2 (List.mem_of_getElem? hx)
      obtain ⟨_, _, s3⟩ := shut_good hg hr hq hsub (F := F) (by omega)
      have hgi := not_gone hg hr hq hsub
      have hg0 := root_stays hg hq hsub
      obtain ⟨r, hr0, hs⟩ := h
      have h1 : RootS (trim (shut F M [x])) z := ⟨r, trim_open.2 ((s3 0 hg0).trans hr0), hs⟩
      exact h1.set (trim_open.2 ((s3 _ hgi).trans hq))
end Ne
end Go.Proofs.Ytllmddhahpegmaa
