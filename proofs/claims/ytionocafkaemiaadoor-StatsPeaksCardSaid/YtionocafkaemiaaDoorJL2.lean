/- The law's example: what the calls on it answer. -/
import Derived.Test.YtionocafkaemiaaDoorJL1
import Derived.Test.YtionocafkaemiaaDoorJW8
import Derived.Test.YtionocafkaemiaaDoorJA17
import Derived.Test.YtionocafkaemiaaDoorJA25
namespace Go.Proofs.YtionocafkaemiaaDoor
open Go.RowKit Go.Sort Go.Lib
namespace Sx
theorem ex_area : areaS exL 10 40 = (⟨0, 150⟩, 0) := by rfl
theorem ex_peak : extS gt exL 15 25 = (⟨20, 8⟩, 0) := by rfl
theorem ex_quant : quantS exL 10 40 1 2 = (5, 0) := by rfl
theorem ex_env : envS exL 40 2 = ([⟨10, 8⟩, ⟨30, 2⟩], 0) := by rfl
abbrev dirty : ByteArray := ⟨#[100, 105, 114, 116, 121]⟩
theorem ex_name : nameS dirty = true := by decide
theorem itoa_one {u : Nat} (h : u < 10) : itoa (u : Int) = [UInt8.ofNat (48 + u)] := by rw [itoa_nat, decDigits, dif_pos h]
theorem ex_nums : nums exL 10 40 = [((2 : Nat) : Int), ((8 : Nat) : Int), ((2 : Nat) : Int), ((5 : Nat) : Int)] := by rfl
theorem ex_ask : askS exL 10 40 = 0 := by rfl
theorem ex_rep (A : Option Addr) (c : Nat) : repS [dirty] [⟨A, c, exL⟩] 10 40 = ([100, 105, 114, 116, 121, 32, 50, 32, 56, 32, 50, 32, 53, 10], 0) := by
  have h1 : chkR [dirty] [⟨A, c, exL⟩] 10 40 = 0 := by
    unfold chkR
    rw [if_neg (by simp), if_neg (by simp), if_neg (by simp [ex_name])]
    exact firstE_none fun j hj => by
      have : j = 0 := by simpa using hj
      subst this
      exact ex_ask
  unfold repS
  rw [h1, if_neg (by simp)]
  have h2 : linesK [dirty] [⟨A, c, exL⟩] 10 40 1 = [100, 105, 114, 116, 121, 32, 50, 32, 56, 32, 50, 32, 53, 10] := by
    show [] ++ lineS dirty exL 10 40 = _
    unfold lineS
    rw [ex_nums]
    unfold numsB
    simp only [List.flatMap_cons, List.flatMap_nil]
    rw [itoa_one (by omega), itoa_one (by omega), itoa_one (by omega)]
    rfl
  show (linesK [dirty] [⟨A, c, exL⟩] 10 40 1, (0 : Int)) = _
  rw [h2]
end Sx
end Go.Proofs.YtionocafkaemiaaDoor
