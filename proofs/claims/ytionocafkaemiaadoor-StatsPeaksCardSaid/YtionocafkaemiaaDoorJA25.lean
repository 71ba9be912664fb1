/- The program's envelope: all of it. -/
import Derived.Test.YtionocafkaemiaaDoorJA22
import Derived.Test.YtionocafkaemiaaDoorJA24
namespace Go.Proofs.YtionocafkaemiaaDoor
open Go.RowKit Go.Lib Go.Sort
namespace Sx
/-- Envelope of the program computes envS. -/
theorem env_ok (A : Option Addr) (c : Nat) (L : List Sm) (u most : Int) (W : World) (hL : SAt W A c L) :
    Calls Tryd.prog 17 #[sv A L.length c, .int .i64 u, .int .i64 most] W fun e w' => ∃ A' c', e = .returned (.tuple #[sv A' (envS L u most).1.length c', .int .i64 (envS L u most).2]) ∧ SAt w' A' c' (envS L u most).1 ∧ Below W.heap.size W w' := by
  by_cases h : chkE L u most = 0
  · refine (env_main A c L u most W hL h).mono ?_
    rintro e w' ⟨A', c', h1, h2, h3⟩
    have he : envS L u most = (overS L (bestL L u most.toNat), 0) := if_neg (by simpa using h)
    rw [he]
    exact ⟨A', c', h1, h2, h3⟩
  · have he : envS L u most = ([], chkE L u most) := if_pos h
    rw [he]
    have hx : Calls Tryd.prog 17 #[sv A L.length c, .int .i64 u, .int .i64 most] W (EnvX (chkE L u most) W) := by
      by_cases h0 : checkS L = 0
      · by_cases hn : L.length = 0
        · have h3 := env_err3 A c L u most W hL h0 _ _ _ rfl hn rfl rfl
          have e : chkE L u most = (if (!inT u || decide (most < 1) || decide (500 < most)) = true then 7 else 4) := by
            unfold chkE
            rw [if_neg (by simpa using h0), if_pos hn]
            by_cases h1 : inT u = true <;> by_cases h2 : most < 1 <;> by_cases h3 : 500 < most <;> simp [h1, h2, h3, hn]
          rw [e]; exact h3
        · have e : chkE L u most = 7 ∧ (!inT u || decide (u ≤ (sm L (L.length - 1)).a) || decide (most < 1) || decide (500 < most)) = true := by
            unfold chkE at h ⊢
            rw [if_neg (by simpa using h0), if_neg hn] at h
            rw [if_neg (by simpa using h0), if_neg hn]
            split at h
            · next hh =>
              refine ⟨if_pos hh, ?_⟩
              rcases hh with h1 | ⟨_, h1⟩ | h1 | h1
              · rw [h1]; rfl
              · rw [decide_eq_true h1]; cases inT u <;> rfl
              · rw [decide_eq_true h1]; simp
              · rw [decide_eq_true h1]; simp
            · exact absurd rfl h
          rw [e.1]
          exact env_err2 A c L u most W hL h0 _ _ _ _ rfl (by omega) rfl rfl rfl e.2
      · have e : chkE L u most = checkS L := if_pos h0
        rw [e]; exact env_err1 A c L u most W hL h0
    refine hx.mono ?_
    rintro e w' ⟨h1, h2⟩
    exact ⟨none, 0, h1, ⟨by simp, by simp [maxLen], fun j x hj => by simp at hj⟩, h2⟩
end Sx
end Go.Proofs.YtionocafkaemiaaDoor
