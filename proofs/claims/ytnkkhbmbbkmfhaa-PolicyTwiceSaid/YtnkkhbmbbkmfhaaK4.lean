/- Plain: what Cost says. -/
import Derived.Test.YtnkkhbmbbkmfhaaK2
namespace Go.Proofs.Ytnkkhbmbbkmfhaa.Py
/-- Is a policy as stated? -/
def polB (k a m : Int) : Bool :=
  if k = 1 ∨ k = 2 then decide (a = 0) && decide (m = 0)
  else if k = 3 then (decide (0 ≤ a) && decide (a ≤ 1000000000)) && decide (m = 0)
  else if k = 4 then (decide (a = 0) && decide (0 ≤ m)) && decide (m ≤ 1024) else false
def costN (L : List PU) (h w k a m : Int) : Int :=
  if k = 1 then agedV L h w 1000000000 else if k = 2 then agedV L h w 0 else if k = 3 then agedV L h w a else mostV L (stepsV L) h w m.toNat
/-- What Cost says, with the error of the trace and the costs. -/
def costX (L : List PU) (h w k a m ask : Int) : Int × Int := if ask ≠ 0 then (0, ask) else if polB k a m = true then (costN L h w k a m, 0) else (0, 2)
end Go.Proofs.Ytnkkhbmbbkmfhaa.Py
