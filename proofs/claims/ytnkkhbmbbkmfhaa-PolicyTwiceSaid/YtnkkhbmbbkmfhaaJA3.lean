/- ContainsFunc and IndexFunc; what the map holds. -/
import Derived.Test.YtnkkhbmbbkmfhaaJA2
import Derived.Test.YtnkkhbmbbkmfhaaJShIdx
import Derived.Maps.RangeWalk
import Derived.Maps.OwnSet
namespace Go.Proofs.Ytnkkhbmbbkmfhaa
open Go.Shelf Go.RowKit Go.Lib Go.Sort
namespace Py

theorem badU_out (u : PU) : badU u = (decide (u.p < 0) || decide (1024 ≤ u.p) || outV u.f 1000000000 || outV u.t 1000000000 || decide (u.t ≤ u.f)) := by
  rw [badU_in, out_in, out_in]
set_option maxRecDepth 100000 in
set_option maxHeartbeats 4000000 in
theorem wrong_ok (u : PU) (w : World) : Calls Try.prog 70 #[ub u] w fun e w' => e = .returned (.bool (badU u)) ∧ Below w.heap.size w w' := by
  have hb := below_box w (.cells #[.int .i64 u.p, .int .i64 u.f, .int .i64 u.t] 86)
  have hbad := badU_out u
  have HB := Lib.hid hb
  clear hb
  have HF := Lib.hid (fun V => outside_ok u.f 1000000000 V)
  have HT := Lib.hid (fun V => outside_ok u.t 1000000000 V)
  obtain ⟨p, f, t⟩ := u
  dsimp only at hbad HF HT HB
  generalize outV f 1000000000 = bf at *
  generalize outV t 1000000000 = bt at *
  generalize badU ⟨p, f, t⟩ = bb at *
  by_cases h0 : p < 0
  · have HV := Lib.hid (show bb = true by rw [hbad]; simp [h0])
    clear hbad
    go_enter Try.func70, Try.ntmps70
    go_wp2
    go_ret
    exact ⟨by rw [HV.out]; rfl, HB.out⟩
  by_cases h1 : 1024 ≤ p
  · have h1' : p ≥ 1024 := h1
    have HV := Lib.hid (show bb = true by rw [hbad]; simp [h1])
    clear hbad
    go_enter Try.func70, Try.ntmps70
    go_wp2
    go_ret
    exact ⟨by rw [HV.out]; rfl, HB.out⟩
  have h1' : ¬ p ≥ 1024 := h1
  cases bf with
  | true =>
    have HV := Lib.hid (show bb = true by rw [hbad]; simp)
    clear hbad
    go_enter Try.func70, Try.ntmps70
    go_wp2_with (go_at_call 38; with_reducible refine (HF.out _).mono ?_; rintro e w' ⟨rfl, rfl⟩)
    go_ret
    exact ⟨by rw [HV.out]; rfl, HB.out⟩
  | false =>
    cases bt with
    | true =>
      have HV := Lib.hid (show bb = true by rw [hbad]; simp)
      clear hbad
      go_enter Try.func70, Try.ntmps70
      go_wp2_with (first | (go_at_call 38; with_reducible refine (HF.out _).mono ?_; rintro e w' ⟨rfl, rfl⟩) | (go_at_call 38; with_reducible refine (HT.out _).mono ?_; rintro e w' ⟨rfl, rfl⟩))
      go_ret
      exact ⟨by rw [HV.out]; rfl, HB.out⟩
    | false =>
      have HV := Lib.hid (show bb = decide (t ≤ f) by rw [hbad]; simp [h0, h1])
      clear hbad
      by_cases h2 : t ≤ f
      · have h2' : f ≥ t := h2
        go_enter Try.func70, Try.ntmps70
        go_wp2_with (first | (go_at_call 38; with_reducible refine (HF.out _).mono ?_; rintro e w' ⟨rfl, rfl⟩) | (go_at_call 38; with_reducible refine (HT.out _).mono ?_; rintro e w' ⟨rfl, rfl⟩))
        go_ret
        exact ⟨by rw [HV.out]; first | rfl | (rw [decide_eq_true h2]; rfl), HB.out⟩
      · have h2' : ¬ f ≥ t := h2
        go_enter Try.func70, Try.ntmps70
        go_wp2_with (first | (go_at_call 38; with_reducible refine (HF.out _).mono ?_; rintro e w' ⟨rfl, rfl⟩) | (go_at_call 38; with_reducible refine (HT.out _).mono ?_; rintro e w' ⟨rfl, rfl⟩))
        go_ret
        exact ⟨by rw [HV.out]; rfl, HB.out⟩
set_option maxHeartbeats 2000000 in
theorem idxU_nil (A : Option Addr) (c : Nat) (fv : Value) (w : World) : Calls Try.prog 89 #[.slice A 0 c, fv] w fun e w' => e = .returned (.int .i64 (-1)) ∧ w' = w := by
  go_enter Try.func89, Try.ntmps89
  go_wp2
  refine wp_loop_rounds 1 ?_
  rw [rounds_succ]
  go_wp2
  go_ret
  exact ⟨rfl, rfl⟩
set_option maxHeartbeats 2000000 in
theorem contU_nil (A : Option Addr) (c : Nat) (fv : Value) (w : World) : Calls Try.prog 71 #[.slice A 0 c, fv] w fun e w' => e = .returned (.bool false) ∧ w' = w := by
  go_enter Try.func71, Try.ntmps71
  go_wp2_with (go_at_call 89; refine (idxU_nil _ _ _ _).mono ?_; rintro e w' ⟨rfl, rfl⟩)
  go_ret
  exact ⟨rfl, rfl⟩
theorem get_use {L : List PU} {j : Nat} (h : j < L.length) : L[j]! = use L j := by
  rw [getElem!_pos L j h]; unfold use; rw [List.getD_eq_getElem?_getD, List.getElem?_eq_getElem h]; rfl
theorem contU_ok (A : Option Addr) (c : Nat) (L : List PU) (w : World) (h : UAt w A c L) (hl : L.length ≤ 100000) : Calls Try.prog 71 #[.slice A L.length c, .func (.func 70) #[] #[]] w fun e w' => e = .returned (.bool (L.any badU)) ∧ Below w.heap.size w w' := by
  rcases Nat.eq_zero_or_pos L.length with h0 | h0
  · have hL : L = [] := List.length_eq_zero_iff.1 h0
    subst hL
    refine (contU_nil A c _ w).mono ?_
    rintro e w' ⟨rfl, rfl⟩
    exact ⟨rfl, Below.refl _ _⟩
  · obtain ⟨g, o, rfl, hg⟩ := h.head h0
    have eg : ∀ args w, (callFunc 70 args).run Try.prog w = .ok (.enter 70 args) w := enters_of Try.func70 (by kernel_rfl) rfl
    have := AnyQ.slices_ContainsFunc Try.contU 3 Try.isAgg86 Try.sizeOf86 eu EU.len badU 70 #[] eg g o L.length c L w (fun W x hb => (wrong_ok x W).mono fun e w' hh => ⟨hh.1, hb.trans (hh.2.mono hb.size)⟩) (Nat.le_refl _) (by omega) hg (fun j hj i v hi => by
      rw [get_use hj] at hi
      obtain ⟨g', o', e, _, d⟩ := (uat_e.1 h).2.2 j _ (use_get hj)
      injection e with e; injection e with e1 e2 _
      subst e1; subst e2
      have hi3 := (List.getElem?_eq_some_iff.1 hi).1
      exact d i v hi3 hi)
    rw [List.take_length] at this
    exact this

/-! What the map holds. -/
abbrev kz (p : Int) : Lit := .int .i64 p
abbrev kd (t : Int) : DataW Unit := .lit (.int .i64 t)
theorem kz_ne {p q : Int} (h : q ≠ p) : kz q ≠ kz p := fun e => by injection e with _ e; exact h e
structure MapIs (D : DataW Unit) (m : Mp) : Prop where
  has : ∀ p, Maps.has D (kz p) = (m p).isSome
  at_ : ∀ p t, m p = some t → ∀ z, D.atKey (kz p) z = kd t
  keys : ∀ kl, Maps.has D kl = true → ∃ p, kl = kz p
theorem mapIs_empty : MapIs (.map []) no := ⟨fun _ => rfl, fun p t h => (by cases h), fun kl h => (by cases h)⟩
theorem isKey_kz (p : Int) : WideAt.IsKeyLit (kz p) := trivial
theorem MapIs.put {D : DataW Unit} {m : Mp} (h : MapIs D m) (hD : Maps.IsMap D) (p t : Int) : MapIs (D.put (kz p) (kd t)) (upd m p (some t)) := by
  refine ⟨fun q => ?_, fun q s hs z => ?_, fun kl hk => ?_⟩
  · unfold upd
    by_cases e : q = p
    · rw [if_pos e, e, Maps.has_put_same hD (isKey_kz p)]; rfl
    · rw [if_neg e, Maps.has_put_other (kz_ne e)]; exact h.has q
  · unfold upd at hs
    by_cases e : q = p
    · rw [if_pos e] at hs
      injection hs with hs
      rw [e, ← hs]; exact Maps.atKey_put_same hD (isKey_kz p) _ _
    · rw [if_neg e] at hs
      rw [Maps.atKey_put_other (kz_ne e)]; exact h.at_ q s hs z
  · by_cases e : kl = kz p
    · exact ⟨p, e⟩
    · rw [Maps.has_put_other e] at hk
      exact h.keys kl hk
theorem MapIs.size {D : DataW Unit} {m : Mp} (h : MapIs D m) (hD : Maps.Tidy D) (p t : Int) : Maps.size (D.put (kz p) (kd t)) = Maps.size D + (if m p = none then 1 else 0) := by
  rw [Maps.size_put hD, h.has]
  cases m p <;> simp
theorem lawI : Maps.Keyed Try.prog 3 := Maps.int_keyed Try.underlying3
theorem zero64 (w : World) : (zeroValue 2).run Try.prog w = .ok (.int .i64 0) w := by kernel_rfl
abbrev MapAt (w : World) (b n : Nat) (D : DataW Unit) : Prop := w.ownsMap Try.prog 3 (plainElem Try.prog 2) b n D
theorem key_wf {p : Int} (h0 : -9223372036854775808 ≤ p) (h1 : p ≤ 9223372036854775807) : (Lit.int .i64 p).wf = true := WalkArith.wf_i64 ⟨h0, h1⟩
/-- A look-up, as it runs. -/
theorem look_map {w : World} {b n : Nat} {D : DataW Unit} {m : Mp} (h : MapAt w b n D) (hm : MapIs D m) (p : Int) (hp : (Lit.int .i64 p).wf = true) :
    (Instr.lookup 82 (.map (some b)) (.int .i64 p) true).run Try.prog w = .ok (.tuple #[.int .i64 ((m p).getD 0), .bool (m p).isSome]) w := by
  obtain ⟨v, ps, hrun, hv⟩ := h.look_ok lawI Try.underlying82 (zero64 w) (plainElem_int Try.underlying2 (by decide)) (Maps.keyOf_int_mk Try.underlying3 hp)
  obtain ⟨c, rfl, hc, _⟩ := plainElem_int_inv Try.underlying2 hv
  rw [hrun, hm.has]
  have e : D.atKey (kz p) (kd 0) = kd c := congrArg Prod.fst hc
  cases hmp : m p with
  | none =>
    have hno : Maps.has D (kz p) = false := by rw [hm.has, hmp]; rfl
    rw [Maps.atKey_of_not_has hno] at e
    have e3 := (Lit.int.inj (DataW.lit.inj e)).2
    rw [← e3]; rfl
  | some t =>
    rw [hm.at_ p t hmp] at e
    have e3 := (Lit.int.inj (DataW.lit.inj e)).2
    rw [← e3]; rfl
end Py
end Go.Proofs.Ytnkkhbmbbkmfhaa
