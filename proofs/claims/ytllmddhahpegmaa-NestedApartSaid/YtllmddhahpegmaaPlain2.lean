/- The plain laws on what lives in an arena. -/
import Derived.Test.YtllmddhahpegmaaPlain
namespace Go.Proofs.Ytllmddhahpegmaa
namespace Ne

/-- What an item counts. -/
def liveOf (t : Tr) (f : Nat) (x : Item) : Int := if 0 ≤ x.c then live t f (itemsOf t x.c.toNat) else if x.c = -1 then x.s else 0

theorem live_nil (t : Tr) (f : Nat) : live t (f + 1) [] = 0 := rfl
theorem live_snoc (t : Tr) (f : Nat) (l : List Item) (x : Item) : live t (f + 1) (l ++ [x]) = live t (f + 1) l + liveOf t f x := by
  simp [live, liveOf]
theorem live_take (t : Tr) (f : Nat) (l : List Item) (j : Nat) (x : Item) (h : l[j]? = some x) : live t (f + 1) (l.take (j + 1)) = live t (f + 1) (l.take j) + liveOf t f x := by
  have hj := (List.getElem?_eq_some_iff.1 h)
  obtain ⟨hl, rfl⟩ := hj
  rw [List.take_succ_eq_append_getElem hl, live_snoc]

/-- The sums stay small, and the arenas inside are there. -/
def LiveOk (t : Tr) : Nat → List Item → Prop
  | 0, _ => False
  | f + 1, l => (∀ x ∈ l, 0 ≤ x.c → ∃ n, t[x.c.toNat]? = some (some n) ∧ n.l.length ≤ 200 ∧ LiveOk t f n.l) ∧ (∀ j, 0 ≤ live t (f + 1) (l.take j) ∧ live t (f + 1) (l.take j) ≤ 65536) ∧ ∀ x ∈ l, 0 ≤ x.s ∧ x.s ≤ 65536

end Ne
end Go.Proofs.Ytllmddhahpegmaa
