/- The plain laws on trees: what Room, Live and Alloc say of one another. -/
import Derived.Test.YtllmddhahpegmaaPlain7
namespace Go.Proofs.Ytllmddhahpegmaa
namespace Ne

theorem up_one (x : Int) : up x 1 = x := by
  unfold up
  rw [show x + 1 - 1 = x by omega]
  simp

theorem badArg_one (sz : Int) (h1 : 1 ≤ sz) (h2 : sz ≤ 65536) : badArg sz 1 = false := by
  unfold badArg
  have e1 : decide (sz < 1) = false := decide_eq_false (by omega)
  have e2 : decide (sz > 65536) = false := decide_eq_false (by omega)
  rw [e1, e2]; rfl

/-- Alloc with the alignment 1. -/
theorem alloc_one {M : Tr} {i : Int} {n : Node} (hf : find M i = some n) (sz : Int) (h1 : 1 ≤ sz) (h2 : sz ≤ 65536) :
    ((n.a + n.s - n.fin < sz ∨ n.l.length = 200) → alloc M i sz 1 = (M, 0, 5)) ∧
    (¬ (n.a + n.s - n.fin < sz ∨ n.l.length = 200) → alloc M i sz 1 = (M.set i.toNat (some { n with l := n.l ++ [⟨n.fin, sz, -1⟩] }), n.fin, 0)) := by
  have hb := badArg_one sz h1 h2
  have hi := (find_some hf).2
  have hg : give M i sz 1 = if n.a + n.s < n.fin + sz ∨ n.l.length = 200 then (0, 5) else (n.fin, 0) := by
    unfold give
    rw [hf]
    simp only [hb, up_one]
    rfl
  constructor
  · intro h
    rw [if_pos (by omega)] at hg
    unfold alloc
    rw [hg]; rfl
  · intro h
    rw [if_neg (by omega)] at hg
    unfold alloc
    rw [hg]
    simp [addItem, hi]

theorem room_set {M : Tr} {i : Nat} {n : Node} (hi : M[i]? = some (some n)) (x : Item) : roomOf (M.set i (some { n with l := n.l ++ [x] })) i = (n.a + n.s - (x.a + x.s), 0) := by
  have hl := (List.getElem?_eq_some_iff.1 hi).1
  have : find (M.set i (some { n with l := n.l ++ [x] })) i = some { n with l := n.l ++ [x] } := by
    unfold find
    rw [if_neg (by omega), Int.toNat_natCast, List.getElem?_set_self hl]; rfl
  unfold roomOf
  rw [this]
  simp [Node.fin]
end Ne
end Go.Proofs.Ytllmddhahpegmaa
