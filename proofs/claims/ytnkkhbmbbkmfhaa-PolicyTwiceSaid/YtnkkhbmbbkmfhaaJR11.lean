/- The specification: after, find, without. -/
import Derived.Test.YtnkkhbmbbkmfhaaJR2
import Derived.Test.YtnkkhbmbbkmfhaaJM4
namespace Go.Proofs.Ytnkkhbmbbkmfhaa
open Go.RowKit
namespace Py

theorem afterV_next {L : List PU} {k : Nat} (hk : k < L.length) (τ b : Int) : (L.take (k + 1)).foldl (aft1 τ) b = aft1 τ ((L.take k).foldl (aft1 τ) b) (use L k) := by
  rw [take_next (use_get hk), List.foldl_append]; rfl
set_option maxRecDepth 100000 in
set_option maxHeartbeats 4000000 in
theorem afterR_ok (A : Option Addr) (c : Nat) (L : List PU) (τ : Int) (w : World) (h : UAt w A c L) :
    Calls Try.prog 65 #[.slice A L.length c, .int .i64 τ] w fun e w' => e = .returned (.int .i64 (afterV L τ)) ∧ w' = w := by
  have hcap := h.2.1
  have hlc := h.1
  unfold maxLen at hcap
  have hE := endR_ok A c L w h
  have HX := Lib.hid h
  have HE := Lib.hid hE
  clear h hE
  unfold afterV
  generalize endV L = en at *
  go_enter Try.func65, Try.ntmps65
  go_upto_region 2 with (go_at_call 64; refine HE.out.mono ?_; rintro e w1 ⟨rfl, hw1⟩)
  subst hw1
  go_wp2_with (fail)
  go_loop [5, 6] (fun n k => ∃ m : Nat, m ≤ L.length ∧ k = .int .i64 m ∧ n = .int .i64 ((L.take m).foldl (aft1 τ) en)) (fun _ k => L.length - (intOf k).toNat)
  case atStart => exact ⟨0, by omega, rfl, rfl⟩
  case round =>
    obtain ⟨m, hm, rfl, rfl⟩ := hrel
    by_cases hlt : m < L.length
    · obtain ⟨g, o, rfl, _, c0, c1, c2⟩ := HX.out.at hlt
      have hn := afterV_next hlt τ en
      generalize List.foldl (aft1 τ) en (L.take m) = b at *
      generalize hu : use L m = u at *
      obtain ⟨up, uf, ut⟩ := u
      dsimp only at c1 c2
      have hn1 : ∀ r, aft1 τ b ⟨up, uf, ut⟩ = r → (L.take (m + 1)).foldl (aft1 τ) en = r := fun r hr => hn.trans hr
      have h4 : aft1 τ b ⟨up, uf, ut⟩ = (if τ < ut then min (if τ < uf then min b uf else b) ut else (if τ < uf then min b uf else b)) := rfl
      have HN := Lib.hid (And.intro hn1 h4)
      clear hn hn1 h4 c0
      by_cases h1 : τ < uf
      · by_cases h2 : τ < ut
        · go_wp2
          go_round
          case rel => exact ⟨m + 1, by omega, by go_num, by rw [HN.out.1 _ HN.out.2, if_pos h1, if_pos h2, Int.min_def, Int.min_def]; congr 1 <;> split <;> split <;> split <;> split <;> omega⟩
          case measure => simp [intOf]; omega
        · go_wp2
          go_round
          case rel => exact ⟨m + 1, by omega, by go_num, by rw [HN.out.1 _ HN.out.2, if_pos h1, if_neg h2, Int.min_def]; congr 1 <;> split <;> split <;> omega⟩
          case measure => simp [intOf]; omega
      · by_cases h2 : τ < ut
        · go_wp2
          go_round
          case rel => exact ⟨m + 1, by omega, by go_num, by rw [HN.out.1 _ HN.out.2, if_neg h1, if_pos h2, Int.min_def]; congr 1 <;> split <;> split <;> omega⟩
          case measure => simp [intOf]; omega
        · go_wp2
          go_round
          case rel => exact ⟨m + 1, by omega, by go_num, by rw [HN.out.1 _ HN.out.2, if_neg h1, if_neg h2]⟩
          case measure => simp [intOf]; omega
    · obtain rfl : m = L.length := by omega
      go_wp2
      go_ret
      exact ⟨rfl, rfl⟩
set_option maxHeartbeats 2000000 in
theorem findR_ok (A : Option Addr) (c : Nat) (H : List Wt) (p : Int) (w : World) (h : EAt eid 2 w A c H) :
    Calls Try.prog 66 #[.slice A H.length c, .int .i64 p] w fun e w' => e = .returned (.int .i64 (fdI p H 0)) ∧ w' = w := by
  have hcap := h.2.1
  have hlc := h.1
  unfold maxLen at hcap
  have HX := Lib.hid h
  clear h
  go_enter Try.func66, Try.ntmps66
  go_wp2_with (fail)
  go_loop [5] (fun k => ∃ m : Nat, m ≤ H.length ∧ k = .int .i64 m ∧ fdI p H 0 = fdI p (H.drop m) m) (fun k => H.length - (intOf k).toNat)
  case atStart => exact ⟨0, by omega, rfl, rfl⟩
  case round =>
    obtain ⟨m, hm, rfl, hn⟩ := hrel
    by_cases hlt : m < H.length
    · obtain ⟨g, o, rfl, hg, c0, c1⟩ := HX.out.id2 hlt
      rw [drop_next (wt_get hlt), fdI_cons] at hn
      generalize (wt H m).p = bp at *
      clear c1
      by_cases hb : bp = p
      · have hb1 : (bp == p) = true := by simp [hb]
        rw [if_pos hb] at hn
        have HN := Lib.hid hn
        clear hn hb
        go_wp2
        go_ret
        exact ⟨by rw [HN.out]; rfl, rfl⟩
      · have hb1 : (bp == p) = false := by simp [hb]
        rw [if_neg hb] at hn
        have HN := Lib.hid hn
        clear hn hb
        go_wp2
        go_round
        case rel => exact ⟨m + 1, by omega, by go_num, HN.out⟩
        case measure => simp [intOf]; omega
    · obtain rfl : m = H.length := by omega
      rw [List.drop_length] at hn
      have HN := Lib.hid hn
      clear hn
      go_wp2
      go_ret
      exact ⟨by rw [HN.out]; rfl, rfl⟩
end Py
end Go.Proofs.Ytnkkhbmbbkmfhaa
