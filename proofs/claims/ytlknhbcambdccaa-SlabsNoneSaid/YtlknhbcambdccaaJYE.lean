/- SlabsDisjoint: kept, full. -/
import Derived.Test.YtlknhbcambdccaaJXT
import Derived.Test.YtlknhbcambdccaaJYA
import Derived.Test.YtlknhbcambdccaaK18
namespace Go.Proofs.Ytlknhbcambdccaa
open Go.RowKit
namespace Sl
open Bu

theorem viewS_len (l : List Slb) : (viewS l).length = l.length * 2 := by
  induction l with
  | nil => rfl
  | cons x l ih => rw [show viewS (x :: l) = [.int .i64 (x.pg : Int), .int .i64 (x.many : Int)] ++ viewS l from rfl, List.length_append, ih]; simp; omega
theorem viewS_get : ∀ {l : List Slb} {j : Nat} {x : Slb}, l[j]? = some x → (viewS l)[j * 2]? = some (.int .i64 (x.pg : Int)) ∧ (viewS l)[j * 2 + 1]? = some (.int .i64 (x.many : Int)) := by
  intro l
  induction l with
  | nil => intro j x h; simp at h
  | cons y l ih =>
    intro j x h
    rw [show viewS (y :: l) = .int .i64 (y.pg : Int) :: .int .i64 (y.many : Int) :: viewS l from rfl]
    cases j with
    | zero => simp at h; subst h; exact ⟨rfl, rfl⟩
    | succ j =>
      obtain ⟨h1, h2⟩ := ih (j := j) (x := x) (by simpa using h)
      rw [show (j + 1) * 2 = j * 2 + 1 + 1 by omega, show j * 2 + 1 + 1 + 1 = (j * 2 + 1) + 1 + 1 by omega]
      exact ⟨by simpa using h1, by simpa using h2⟩

/-- What Slabs returned. -/
def ViewAt (W : World) (A : Option Addr) (cp : Nat) (l : List Slb) : Prop :=
  l.length ≤ cp ∧ cp ≤ maxLen ∧ ∀ (j : Nat) (x : Slb), l[j]? = some x → ∃ g, A = some ⟨g, 0, none⟩ ∧ W.cell? ⟨g, j * 2, none⟩ = some (.int .i64 (x.pg : Int)) ∧ W.cell? ⟨g, j * 2 + 1, none⟩ = some (.int .i64 (x.many : Int))
theorem view_of {W : World} {B cp : Nat} {A : Option Addr} {l : List Slb} (h : W.ownsRow B 39 2 (.slice A l.length cp) l.length (viewS l)) : ViewAt W A cp l := by
  by_cases hl : 1 ≤ l.length
  · obtain ⟨g, rfl⟩ := row_some h hl
    obtain ⟨h1, h2, _⟩ := row_capsA h
    exact ⟨h1, h2, fun j x hx => ⟨g, rfl, row_at h (viewS_get hx).1, row_at h (viewS_get hx).2⟩⟩
  · have h0 : l = [] := List.length_eq_zero_iff.1 (by omega)
    subst h0
    rcases h.2 with ⟨hv, _⟩ | ⟨g, cap, cur, hv, _, _, h1, h2, _⟩
    · injection hv with _ _ e
      subst e
      exact ⟨Nat.zero_le _, Nat.zero_le _, fun j x hx => by simp at hx⟩
    · injection hv with _ _ e
      subst e
      exact ⟨h1, h2, fun j x hx => by simp at hx⟩

theorem emptyS_take {l : List Slb} {k : Nat} {x : Slb} (hx : l[k]? = some x) : emptyS (l.take (k + 1)) = emptyS (l.take k) + (if x.many = 0 then 1 else 0) := by
  obtain ⟨hk, he⟩ := List.getElem?_eq_some_iff.1 hx
  unfold emptyS
  rw [List.take_succ_eq_append_getElem hk, he, List.filter_append, List.length_append]
  by_cases h : x.many = 0 <;> simp [h]
theorem emptyS_le (l : List Slb) : emptyS l ≤ l.length := List.length_filter_le _ _

set_option maxRecDepth 100000 in
set_option maxHeartbeats 4000000 in
theorem kept_ok {w W : World} {own : Own?} {c b : Nat} {C : Ca} {N : Nat} {L : List Blk} (h : Mine w own c b C N L W) (keep : Int) (hk : (C.keep : Int) ≤ keep) :
    Calls Try.prog 24 #[.pointer (some ⟨c, 0, none⟩), .int .i64 keep] W fun e W' => e = .returned (.bool true) ∧ Mine w own c b C N L W' ∧ Below W.heap.size W W' := by
  have HS := Lib.hid h.slabs
  have hemp := h.held.ok.emp
  have hl := ok_len h.held.ok
  obtain ⟨n, hn⟩ : ∃ n, n = C.sl.length := ⟨_, rfl⟩
  have HN := Lib.hid (And.intro hn hemp)
  rw [← hn] at hl
  clear h hn hemp
  go_enter Try.func24, Try.ntmps24
  go_wp2_with (go_at_call 14; fail)
  refine HS.out.mono ?_
  rintro _ W2 ⟨⟨A, cp, rfl, hr⟩, hM, hb⟩
  have hV := view_of hr
  have hcp := hV.1
  have hcm := hV.2.1
  unfold maxLen at hcm
  have H2 := Lib.hid (And.intro hV.2.2 (And.intro hM hb))
  rw [← HN.out.1] at hcp ⊢
  clear hr hM hb hV HS
  go_wp2_with (fail)
  go_loop [7, 8] (fun m i => ∃ k : Nat, k ≤ n ∧ i = .int .i64 (k : Int) ∧ m = .int .i64 (emptyS (C.sl.take k) : Int)) (fun _ i => n - (intOf i).toNat)
  case atStart => exact ⟨0, Nat.zero_le _, rfl, rfl⟩
  case round =>
    obtain ⟨k, hk, rfl, rfl⟩ := hrel
    have e0 : (0 : Int) ≤ (k : Int) := by omega
    by_cases hlt : k < n
    · have e1 : (k : Int) < (n : Int) := by omega
      obtain ⟨x, hx⟩ : ∃ x, C.sl[k]? = some x := ⟨_, List.getElem?_eq_getElem (by have := HN.out.1; omega)⟩
      obtain ⟨g, rfl, d0, d1⟩ := H2.out.1 k x hx
      have hes := emptyS_take hx
      have hel : emptyS (C.sl.take k) ≤ 1024 := by have := emptyS_le (C.sl.take k); have := List.length_take_le k C.sl; omega
      obtain ⟨ek, hek⟩ : ∃ ek, ek = emptyS (C.sl.take k) := ⟨_, rfl⟩
      obtain ⟨m, hm⟩ : ∃ m, m = x.many := ⟨_, rfl⟩
      rw [← hek] at hes hel ⊢
      rw [← hm] at d1 hes
      have hkk : IntKind.i64.wrap ((k : Int) + 1) = ((k + 1 : Nat) : Int) := by rw [IntWalk.i64_in _ (by omega)]; rfl
      have hee : IntKind.i64.wrap ((ek : Int) + 1) = ((ek + 1 : Nat) : Int) := by rw [IntWalk.i64_in _ (by omega)]; rfl
      by_cases hz : m = 0
      · have t1 : ((m : Int) == 0) = true := by rw [hz]; rfl
        rw [if_pos hz] at hes
        have HE := Lib.hid hes
        clear hes hek hm hx hz
        go_wp2
        go_round
        case rel => exact ⟨k + 1, by omega, by go_num, by rw [HE.out]; go_num⟩
        case measure => simp [intOf]; omega
      · have t1 : ((m : Int) == 0) = false := by rw [beq_eq_false_iff_ne]; omega
        rw [if_neg hz, Nat.add_zero] at hes
        have HE := Lib.hid hes
        clear hes hek hm hx hz
        go_wp2
        go_round
        case rel => exact ⟨k + 1, by omega, by go_num, by rw [HE.out]; rfl⟩
        case measure => simp [intOf]; omega
    · obtain rfl : k = n := by omega
      have e1 : ¬ ((k : Nat) : Int) < (k : Int) := by omega
      have hall : emptyS (C.sl.take k) = emptyS C.sl := by rw [HN.out.1, List.take_length]
      rw [hall]
      obtain ⟨en, hen⟩ : ∃ en, en = emptyS C.sl := ⟨_, rfl⟩
      have e2 : (en : Int) ≤ keep := by have := HN.out.2; omega
      rw [← hen]
      clear hall hen
      go_wp2
      go_ret
      exact ⟨rfl, H2.out.2.1, H2.out.2.2⟩

set_option maxRecDepth 100000 in
set_option maxHeartbeats 4000000 in
theorem full_ok {w W : World} {own : Own?} {c b : Nat} {C : Ca} {N : Nat} {L : List Blk} (h : Mine w own c b C N L W) (hno : allocC C N L = none) :
    Calls Try.prog 22 #[.pointer (some ⟨b, 0, none⟩), .pointer (some ⟨c, 0, none⟩), .int .i64 (C.order : Int)] W fun e W' => e = .returned (.bool true) ∧ Mine w own c b C N L W' ∧ Below W.heap.size W W' := by
  obtain ⟨hfull, hroom⟩ := alloc_noroom h.held.ok hno
  have HS := Lib.hid h.slabs
  have hod := h.held.ok.od
  have hl := ok_len h.held.ok
  obtain ⟨n, hn⟩ : ∃ n, n = C.sl.length := ⟨_, rfl⟩
  have HN := Lib.hid (And.intro hn (And.intro hfull (And.intro hroom hod)))
  rw [← hn] at hl
  clear h hn hno hfull hroom
  obtain ⟨o, ho⟩ : ∃ o, o = C.order := ⟨_, rfl⟩
  obtain ⟨cq, hcq⟩ : ∃ cq, cq = capa C.size C.order := ⟨_, rfl⟩
  have HO := Lib.hid (And.intro ho hcq)
  rw [← ho] at hod ⊢
  clear ho hcq
  go_enter Try.func22, Try.ntmps22
  go_wp2_with (go_at_call 14; fail)
  refine HS.out.mono ?_
  rintro _ W2 ⟨⟨A, cp, rfl, hr⟩, hM, hb⟩
  have hV := view_of hr
  have hcp := hV.1
  have hcm := hV.2.1
  unfold maxLen at hcm
  have hcap := hM.capacity
  rw [← HO.out.2] at hcap
  have HC := Lib.hid hcap
  have H2 := Lib.hid (And.intro hr (And.intro hM hb))
  rw [← HN.out.1] at hcp ⊢
  clear hr hM hb hV HS hcap
  go_wp2_with (go_at_call 29; fail)
  refine HC.out.mono ?_
  rintro _ W3 ⟨rfl, hM3, hb3⟩
  have hrm := roomL_ok W3 b N L o hM3.held.bu (by omega)
  rw [HO.out.1, HN.out.2.2.1] at hrm
  rw [← HO.out.1] at hrm
  have HR := Lib.hid hrm
  have H3 := Lib.hid (And.intro hM3 hb3)
  clear hM3 hb3 hrm HC
  go_wp2_with (go_at_call 51; fail)
  refine HR.out.mono ?_
  rintro _ W4 ⟨rfl, hb4⟩
  have hb24 : Below W2.heap.size W2 W4 := H3.out.2.trans (hb4.mono H3.out.2.size)
  have hV4 := view_of (row_keep H2.out.1 fun z _ hz => hb24.block z hz)
  have H4 := Lib.hid (And.intro hV4.2.2 (And.intro hb4 hb24))
  clear hb4 hb24 hV4 HR
  go_wp2_with (fail)
  go_loop [13] (fun i => ∃ k : Nat, k ≤ n ∧ i = .int .i64 (k : Int)) (fun i => n - (intOf i).toNat)
  case atStart => exact ⟨0, Nat.zero_le _, rfl⟩
  case round =>
    obtain ⟨k, hk, rfl⟩ := hrel
    have e0 : (0 : Int) ≤ (k : Int) := by omega
    by_cases hlt : k < n
    · have e1 : (k : Int) < (n : Int) := by omega
      obtain ⟨x, hx⟩ : ∃ x, C.sl[k]? = some x := ⟨_, List.getElem?_eq_getElem (by have := HN.out.1; omega)⟩
      obtain ⟨g, rfl, d0, d1⟩ := H4.out.1 k x hx
      rw [HN.out.2.1 x (List.mem_of_getElem? hx), ← HO.out.2] at d1
      have hkk : IntKind.i64.wrap ((k : Int) + 1) = ((k + 1 : Nat) : Int) := by rw [IntWalk.i64_in _ (by omega)]; rfl
      clear hx
      go_wp2
      go_round
      case rel => exact ⟨k + 1, by omega, by go_num⟩
      case measure => simp [intOf]; omega
    · obtain rfl : k = n := by omega
      have e1 : ¬ ((k : Nat) : Int) < (k : Int) := by omega
      go_wp2
      go_ret
      exact ⟨rfl, H3.out.1.step H4.out.2.1, below_step (below_step H2.out.2.2 H3.out.2 (Nat.le_refl _)) H4.out.2.1 (Nat.le_refl _)⟩
end Sl
end Go.Proofs.Ytlknhbcambdccaa
