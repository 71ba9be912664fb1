/- The program: comparing sets. -/
import Derived.Test.YtnkkhbmbbkmfhaaJA11
namespace Go.Proofs.Ytnkkhbmbbkmfhaa
open Go.RowKit Go.Sort Go.Lib
namespace Py

def lcmp : List Nat → List Nat → Int
  | [], [] => 0
  | [], _ :: _ => -1
  | _ :: _, [] => 1
  | x :: a, y :: b => if cmpV x y ≠ 0 then cmpV x y else lcmp a b
theorem lcmp_cons (x y : Nat) (a b : List Nat) : lcmp (x :: a) (y :: b) = if cmpV x y ≠ 0 then cmpV x y else lcmp a b := rfl
theorem lcmp_end (b : List Nat) : lcmp [] b = if 0 < b.length then -1 else 0 := by cases b <;> simp [lcmp]
theorem lcmp_lt : ∀ K M : List Nat, lcmp K M < 0 ↔ lessV K M = true
  | [], [] => by simp [lcmp, lessV]
  | [], y :: b => by simp [lcmp, lessV]
  | x :: a, [] => by simp [lcmp, lessV]
  | x :: a, y :: b => by
    rw [lcmp_cons, lessV_cons]
    have h0 := cmpV_0 (x : Int) y
    have h1 := cmpV_lt (x : Int) y
    by_cases h : x = y
    · rw [if_pos h, if_neg (by simp; rw [h0]; omega)]
      exact lcmp_lt a b
    · rw [if_neg h, if_pos (by rw [Ne, h0]; omega), h1, decide_eq_true_eq]; omega
set_option maxHeartbeats 4000000 in
theorem compare_ok (A : Option Addr) (c : Nat) (K : List Nat) (B : Option Addr) (d : Nat) (M : List Nat) (w : World) (hK : IAt w A c (zs K)) (hM : IAt w B d (zs M)) :
    Calls Try.prog 51 #[.slice A K.length c, .slice B M.length d] w fun e w' => e = .returned (.int .i64 (lcmp K M)) ∧ w' = w := by
  have hkc := hK.1
  have hkm := hK.2.1
  have hdc := hM.1
  have hdm := hM.2.1
  rw [List.length_map] at hdc hkc
  unfold maxLen at hkm hdm
  have HX := Lib.hid (And.intro hK hM)
  clear hK hM
  go_enter Try.func51, Try.ntmps51
  go_wp2_with (fail)
  go_loop [11] (fun i => ∃ k : Nat, k ≤ K.length ∧ i = .int .i64 k ∧ k ≤ M.length ∧ lcmp K M = lcmp (K.drop k) (M.drop k)) (fun i => K.length - (intOf i).toNat)
  case atStart => exact ⟨0, Nat.zero_le _, rfl, Nat.zero_le _, rfl⟩
  case round =>
    obtain ⟨k, hk, rfl, hkM, hl⟩ := hrel
    by_cases h1 : k < K.length
    · obtain ⟨x, hx⟩ : ∃ x, K[k]? = some x := ⟨_, List.getElem?_eq_getElem h1⟩
      obtain ⟨g, o, rfl, hg, k0⟩ := iat_nat HX.out.1 hx
      rw [drop_next hx] at hl
      by_cases h2 : k < M.length
      · have h2' : ¬ ((k : Int) ≥ (M.length : Int)) := by omega
        obtain ⟨y, hy⟩ : ∃ y, M[k]? = some y := ⟨_, List.getElem?_eq_getElem h2⟩
        obtain ⟨g2, o2, rfl, hg2, m0⟩ := iat_nat HX.out.2 hy
        rw [drop_next hy, lcmp_cons] at hl
        clear hx hy
        have HC := Lib.hid (fun V => cmpI_ok (x : Int) (y : Int) V)
        generalize cmpV (x : Int) (y : Int) = cv at *
        by_cases he : cv = 0
        · rw [if_neg (by omega)] at hl
          have hb : (cv != 0) = false := by simp [he]
          have HL := Lib.hid hl
          clear hl he
          go_wp2_with (go_at_call 59; with_reducible refine (HC.out _).mono ?_; rintro e w' ⟨rfl, rfl⟩)
          go_round
          case rel => exact ⟨k + 1, by omega, by go_num, by omega, HL.out⟩
          case measure => simp [intOf]; omega
        · rw [if_pos he] at hl
          have hb : (cv != 0) = true := by simp [he]
          have HL := Lib.hid hl
          clear hl he
          go_wp2_with (go_at_call 59; with_reducible refine (HC.out _).mono ?_; rintro e w' ⟨rfl, rfl⟩)
          go_ret
          exact ⟨by rw [HL.out]; first | done | rfl, rfl⟩
      · have h2' : (k : Int) ≥ (M.length : Int) := by omega
        have hM : M.drop k = [] := List.drop_eq_nil_of_le (by omega)
        rw [hM] at hl
        have HV := Lib.hid (show lcmp K M = 1 from hl)
        clear hl hM
        go_wp2
        go_ret
        exact ⟨by rw [HV.out]; first | done | rfl, rfl⟩
    · have hK : K.drop k = [] := List.drop_eq_nil_of_le (by omega)
      rw [hK, lcmp_end, List.length_drop] at hl
      clear hK
      by_cases h3 : K.length < M.length
      · rw [if_pos (by omega)] at hl
        have HV := Lib.hid hl
        clear hl
        go_wp2
        go_ret
        exact ⟨by rw [HV.out]; first | done | rfl, rfl⟩
      · rw [if_neg (by omega)] at hl
        have HV := Lib.hid hl
        clear hl
        go_wp2
        go_ret
        exact ⟨by rw [HV.out]; first | done | rfl, rfl⟩
end Py
end Go.Proofs.Ytnkkhbmbbkmfhaa
