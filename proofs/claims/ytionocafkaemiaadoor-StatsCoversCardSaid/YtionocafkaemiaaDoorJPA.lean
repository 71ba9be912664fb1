/- Add, plain. -/
import Derived.Test.YtionocafkaemiaaDoorK0
namespace Go.Proofs.YtionocafkaemiaaDoor.Sx
/-- What Add answers. -/
def addS (L : List Sm) (a v : Int) : List Sm × Int :=
  if checkS L ≠ 0 then ([], checkS L)
  else if (inT a && inT v) = false then ([], 7)
  else if 0 < L.length ∧ a < (sm L (L.length - 1)).a then ([], 9)
  else if 0 < L.length ∧ a = (sm L (L.length - 1)).a then (L.set (L.length - 1) ⟨(sm L (L.length - 1)).a, v⟩, 0)
  else if 0 < L.length ∧ v = (sm L (L.length - 1)).v then (L, 0)
  else if L.length = 500 then ([], 5)
  else (L ++ [⟨a, v⟩], 0)
end Go.Proofs.YtionocafkaemiaaDoor.Sx
