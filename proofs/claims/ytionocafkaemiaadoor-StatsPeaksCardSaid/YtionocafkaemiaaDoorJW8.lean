/- Reports: the program's Report, whole. -/
import Derived.Test.YtionocafkaemiaaDoorJW7
namespace Go.Proofs.YtionocafkaemiaaDoor
open Go.Shelf Go.RowKit Go.Lib
namespace Sx
attribute [local irreducible] wpQuiet
set_option maxRecDepth 100000 in
set_option maxHeartbeats 4000000 in
theorem report_ok (AN AL : Option Addr) (cN cL : Nat) (ns : List ByteArray) (l : List Ser) (f t : Int) (W : World) (hN : EAt enS 1 W AN cN ns) (hL : EAt enL 1 W AL cL l)
    (hS : ∀ x, x ∈ l → SAt W x.A x.c x.L) (hsz : ∀ s, s ∈ ns → s.size < 1099511627776) (hT : Lib.TabIs Tryd.prog W "internal/strconv.uint64pow10" .u64 Lib.pow10Tab) :
    Calls Tryd.prog 39 #[.slice AN ns.length cN, .slice AL l.length cL, .int .i64 f, .int .i64 t] W fun e w' => e = .returned (.tuple #[.string ⟨(repS ns l f t).1.toArray⟩, .int .i64 (repS ns l f t).2]) ∧ Below W.heap.size W w' := by
  have hl1 := hN.1
  have hl2 := hN.2.1
  have hl3 := hL.1
  have hl4 := hL.2.1
  unfold maxLen at hl2 hl4
  by_cases g1 : l.length ≤ 20
  · by_cases g2 : ns.length = l.length
    · by_cases g3 : ns.all nameS = true
      · exact report_main AN AL cN cL ns l f t W hN hL hS hsz hT g1 g2 g3
      · rw [Bool.not_eq_true] at g3
        have hcont := contS_ok AN cN ns W hN hsz
        rw [g3] at hcont
        have hR : repS ns l f t = ([], 6) := by
          have hC : chkR ns l f t = 6 := by
            unfold chkR
            rw [if_neg (by omega), if_neg (by omega), if_pos g3]
          unfold repS
          rw [hC]; rfl
        rw [hR]
        rw [g2] at hcont ⊢
        obtain ⟨n, hn⟩ : ∃ n, n = l.length := ⟨_, rfl⟩
        rw [← hn] at hcont g1 ⊢
        have HC := Lib.hid hcont
        clear hcont hR g3 g2 hN hL hS hsz hT hn hl1 hl2 hl3 hl4
        go_enter Tryd.func39, Tryd.ntmps39
        go_wp2_with (go_at_call 65; refine HC.out.mono ?_; rintro e w1 ⟨rfl, q, hw⟩; subst hw)
        go_ret2
        exact ⟨rfl, below_drewN (Below.refl _ _) q⟩
    · have hR : repS ns l f t = ([], 2) := by
        have hC : chkR ns l f t = 2 := by
          unfold chkR
          rw [if_neg (by omega), if_pos g2]
        unfold repS
        rw [hC]; rfl
      rw [hR]
      obtain ⟨n, hn⟩ : ∃ n, n = l.length := ⟨_, rfl⟩
      obtain ⟨m, hm⟩ : ∃ n, n = ns.length := ⟨_, rfl⟩
      rw [← hn] at g1 g2 ⊢
      rw [← hm] at g2 ⊢
      have g2i : ((m : Int) == (n : Int)) = false := by simpa using fun h : (m : Int) = n => g2 (by omega)
      have g2j : ((m : Int) != (n : Int)) = true := by rw [bne, g2i]; rfl
      have g2k : decide ((m : Int) = (n : Int)) = false := decide_eq_false (by omega)
      clear hR hN hL hS hsz hT hn hm hl1 hl2 hl3 hl4 g2
      go_enter Tryd.func39, Tryd.ntmps39
      go_wp2_with (fail)
      go_ret2
      exact ⟨rfl, Below.refl _ _⟩
  · have hR : repS ns l f t = ([], 3) := by
      have hC : chkR ns l f t = 3 := by
        unfold chkR
        rw [if_pos (by omega)]
      unfold repS
      rw [hC]; rfl
    rw [hR]
    obtain ⟨n, hn⟩ : ∃ n, n = l.length := ⟨_, rfl⟩
    rw [← hn] at g1 ⊢
    have g1i : (20 : Int) < (n : Int) := by omega
    clear hR hN hL hS hsz hT hn hl1 hl2 hl3 hl4 g1
    go_enter Tryd.func39, Tryd.ntmps39
    go_wp2_with (fail)
    go_ret2
    exact ⟨rfl, Below.refl _ _⟩
end Sx
end Go.Proofs.YtionocafkaemiaaDoor
