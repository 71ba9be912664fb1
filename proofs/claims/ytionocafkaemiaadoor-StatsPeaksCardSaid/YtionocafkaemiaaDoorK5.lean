/- Appending in a region that draws: what stays. The specification: Time, Number, Check, at. The specification: at, Value, asked. The program: isTime, isValue, Check. -/
import Derived.Test.YtionocafkaemiaaDoorK4
namespace Go.Proofs.YtionocafkaemiaaDoor
open Go.RowKit
namespace Sx
section
variable {α : Type} {enc : α → List Value} {k : Nat}
set_option maxRecDepth 100000 in
theorem step_e2 (E : Enc enc k) {ts te : TypeId} {by_ : Nat} (hts : Tryd.prog.underlying ts = some (.slice te)) (hte : (Tryd.prog.info? te).map (fun i => (i.zero.isSome, i.zero.map (fun z => z.cells.size), i.size, i.bytes)) = some (true, some k, k, by_)) (hby : by_ ≤ 1000000)
    {w : World} {ops : Array Oper} {o : Oper} {a : Act} {K : Act → World → Prop} {Q : Exit → Act → World → Prop} {F : Prop} (hgd : o.guard = none) (s x : Operand) (ho : o.op = .call { callee := .builtin .append, args := #[s, x], argTypes := #[ts, ts] })
    (n : Nat) (A0 : Option Addr) (c0 : Nat) (X : List α) (hs : a.eval s = .slice A0 X.length c0) (ht : OwnE enc k w n te A0 c0 X)
    (A : Option Addr) (c : Nat) (M : List α) (hx : a.eval x = .slice A M.length c) (hM : EAt enc k w A c M) (hn : A = none → c = 0) (hlen : X.length + M.length ≤ 100000) (hb : n ≤ w.heap.size)
    (h : ∀ A' c' w', OwnE enc k w' n te A' c' (X ++ M) → Below n w w' → (∀ g, g < w.heap.size → A0.map (·.block) ≠ some g → w'.heap[g]? = w.heap[g]?) → K (a.put o.dst (.slice A' (X ++ M).length c')) w') :
    if Region.wanted o (yielded ops a.tmps) = true then Oper.wp Tryd.prog o a w K Q else F := by
  obtain ⟨A', c', w', hrun, h1, h2, _⟩ := run_append_e E hts hte hby w o.type n A0 c0 X ht A c M hM hn hlen hb
  have hbel : Below n w w' := below_grown h2 hb fun g e => ((OwnE.at E ht).2 g (own_blk e)).1
  exact step_of hgd (wp_append_run s x ho _ _ _ hs hx w' hrun (h A' c' w' h1 hbel fun g hg hne => h2.block g hg fun e => hne (own_blk e.symm)))
end
theorem oneS (w : World) (T : TypeId) (x : Sm) : EAt Sx.es 2 (w.alloc (.cells #[.int .i64 x.a, .int .i64 x.v] T)) (some ⟨w.heap.size, 0, none⟩) 1 [x] := (OwnE.at ES (owne_one ES w T x _ rfl)).1
theorem not_row' {W : World} {B t e : Nat} {v : Value} {n0 k : Nat} {A : Option Addr} {n c : Nat} {xs : List Value} (h : Boxed W B t v) (hte : t ≠ e) (hr : W.ownsRow n0 e k (.slice A n c) n xs) : A.map (·.block) ≠ some B := by
  intro e'
  refine h.not_row hte hr ?_
  cases A with
  | none => cases e'
  | some ad => injection e' with e'; rw [← e']; rfl
end Sx
end Go.Proofs.YtionocafkaemiaaDoor
namespace Go.Proofs.YtionocafkaemiaaDoor
open Go.RowKit Go.Lib
namespace Sx

set_option maxHeartbeats 2000000 in
theorem timeR_ok (t : Int) (w : World) : Calls Tryd.prog 55 #[.int .i64 t] w fun e w' => e = .returned (.bool (inT t)) ∧ w' = w := by
  unfold inT
  by_cases h : 0 ≤ t
  · have h' : t ≥ 0 := h
    rw [decide_eq_true h, Bool.true_and]
    go_enter Tryd.func55, Tryd.ntmps55
    go_wp2
    go_ret
    exact ⟨rfl, rfl⟩
  · have h' : ¬ t ≥ 0 := h
    rw [decide_eq_false h, Bool.false_and]
    go_enter Tryd.func55, Tryd.ntmps55
    go_wp2
    go_ret
    exact ⟨rfl, rfl⟩
set_option maxHeartbeats 2000000 in
theorem numR_ok (t : Int) (w : World) : Calls Tryd.prog 61 #[.int .i64 t] w fun e w' => e = .returned (.bool (inT t)) ∧ w' = w := by
  unfold inT
  by_cases h : 0 ≤ t
  · have h' : t ≥ 0 := h
    rw [decide_eq_true h, Bool.true_and]
    go_enter Tryd.func61, Tryd.ntmps61
    go_wp2
    go_ret
    exact ⟨rfl, rfl⟩
  · have h' : ¬ t ≥ 0 := h
    rw [decide_eq_false h, Bool.false_and]
    go_enter Tryd.func61, Tryd.ntmps61
    go_wp2
    go_ret
    exact ⟨rfl, rfl⟩
theorem chk_next {last : Int} {x : Sm} {L : List Sm} : chkF last (x :: L) = if (inT x.a && inT x.v) = false then 7 else if x.a ≤ last then 6 else chkF x.a L := rfl
def lastA (L : List Sm) (k : Nat) : Int := if k = 0 then -1 else (sm L (k - 1)).a
attribute [local irreducible] wpQuiet
set_option maxRecDepth 100000 in
set_option maxHeartbeats 4000000 in
theorem checkR_ok (A : Option Addr) (c : Nat) (L : List Sm) (W : World) (hL : SAt W A c L) : Calls Tryd.prog 36 #[sv A L.length c] W fun e w' => e = .returned (.int .i64 (checkS L)) ∧ Below W.heap.size W w' := by
  have hb := below_box W (.cells #[.slice A L.length c] 24)
  have hn := one_at (new_at W (.cells #[.slice A L.length c] 24))
  have hcm := hL.2.1
  have hlc := hL.1
  unfold maxLen at hcm
  by_cases h5 : 500 < L.length
  · have hr : checkS L = 3 := if_pos h5
    have HX := Lib.hid (And.intro hb hr)
    clear hb hn hr hL
    go_enter Tryd.func36, Tryd.ntmps36
    go_wp2
    go_ret
    exact ⟨by rw [HX.out.2]; rfl, HX.out.1⟩
  · have hr : checkS L = chkF (-1) L := if_neg h5
    have hLV := hL.below hb (Nat.le_refl _)
    have HX := Lib.hid (And.intro hb (And.intro hr hLV))
    clear hb hr hLV hL
    go_enter Tryd.func36, Tryd.ntmps36
    go_upto_region 1 with (fail)
    generalize W.alloc (.cells #[.slice A L.length c] 24) = V at *
    have HN := Lib.hid hn
    go_wp2_with (fail)
    go_loopw [3] (fun i wr => ∃ k : Nat, k ≤ L.length ∧ i = .int .i64 (k : Int) ∧ chkF (-1) L = chkF (lastA L k) (L.drop k) ∧ Below V.heap.size V wr) (fun i _ => L.length - (intOf i).toNat)
    case atStart => exact ⟨0, Nat.zero_le _, rfl, rfl, Below.refl _ _⟩
    case round =>
      obtain ⟨k, hk, rfl, hck, hbw⟩ := hrel
      have s0 := cell_keep2 hbw HN.out
      clear hn
      by_cases hlt : k < L.length
      · have hLw := HX.out.2.2.below hbw (Nat.le_refl _)
        obtain ⟨g, o, rfl, hg, d0, d1⟩ := hLw.s2 hlt
        have hdn := drop_next (sm_get hlt)
        rw [hdn, chk_next] at hck
        have hprev : 0 < k → wr.cell? ⟨g, o + (k - 1) * 2, none⟩ = some (.int .i64 (lastA L k)) := fun h0 => by
          obtain ⟨g', o', e, _, e0, _⟩ := hLw.s2 (j := k - 1) (by omega)
          injection e with e; injection e with e1 e2 _
          subst e1; subst e2
          rw [e0]; unfold lastA; rw [if_neg (by omega)]
        have hla : lastA L (k + 1) = (sm L k).a := by unfold lastA; rw [if_neg (by omega), Nat.add_sub_cancel]
        have hl0 : k = 0 → lastA L k = -1 := fun e => by unfold lastA; rw [if_pos e]
        generalize lastA L k = la at *
        generalize sm L k = x at *
        obtain ⟨xa, xv⟩ := x
        dsimp only at hck d0 d1 hla
        have HR := Lib.hid (And.intro hck (And.intro hbw hla))
        have HT := Lib.hid (fun V => timeR_ok xa V)
        have HV := Lib.hid (fun V => numR_ok xv V)
        have HP := Lib.hid (And.intro hprev hl0)
        clear hck hbw hLw hla hdn hprev hl0
        go_upto_region 7 with (fail)
        obtain ⟨V1, hV1⟩ : ∃ V1, V1 = wr.alloc (.cells #[.int .i64 xa, .int .i64 xv] 49) := ⟨_, rfl⟩
        rw [← hV1]
        obtain ⟨ub, hub⟩ : ∃ ub, ub = wr.heap.size := ⟨_, rfl⟩
        rw [← hub]
        have hbx : V1.heap[ub]? = some (.cells #[.int .i64 xa, .int .i64 xv] 49 (0, 0)) := by rw [hV1, hub, heapAlloc, if_pos rfl]
        have hbV : Below wr.heap.size wr V1 := by rw [hV1]; exact below_box _ _
        obtain ⟨u0, u1⟩ := two_at hbx
        replace s0 := cell_keep2 hbV s0
        have H1 := Lib.hid (And.intro hbV (HR.out.2.1.trans (hbV.mono HR.out.2.1.size)))
        clear hV1 hub hbx hbV d0 d1
        cases ht : inT xa with
        | false =>
          rw [ht] at HT
          have hr := HR.out.1.trans (if_pos (by rw [ht]; rfl))
          have HQ := Lib.hid hr
          clear hr ht
          go_wp2_with (go_at_call 55; refine (HT.out _).mono ?_; rintro e w1 ⟨rfl, hw⟩; have hw := hw.symm; subst hw)
          go_ret
          exact ⟨by rw [HX.out.2.1, HQ.out]; rfl, HX.out.1.trans (H1.out.2.mono HX.out.1.size)⟩
        | true =>
          rw [ht] at HT
          cases hv : inT xv with
          | false =>
            rw [hv] at HV
            have hr := HR.out.1.trans (if_pos (by rw [ht, hv]; rfl))
            have HQ := Lib.hid hr
            clear hr ht hv
            go_wp2_with (first | (go_at_call 55; refine (HT.out _).mono ?_; rintro e w1 ⟨rfl, hw⟩; have hw := hw.symm; subst hw) | (go_at_call 61; refine (HV.out _).mono ?_; rintro e w1 ⟨rfl, hw⟩; have hw := hw.symm; subst hw))
            go_ret
            exact ⟨by rw [HX.out.2.1, HQ.out]; rfl, HX.out.1.trans (H1.out.2.mono HX.out.1.size)⟩
          | true =>
            rw [hv] at HV
            have hr := HR.out.1.trans (if_neg (by rw [ht, hv]; simp))
            have ht0 := (inT_iff.1 ht).1
            by_cases hk0 : k = 0
            · have hnl : ¬ xa ≤ la := by rw [HP.out.2 hk0]; omega
              have hr2 := hr.trans (if_neg hnl)
              have HQ := Lib.hid hr2
              subst hk0
              clear hr hr2 ht hv hnl ht0
              go_upto_region 9 with (first | (go_at_call 55; refine (HT.out _).mono ?_; rintro e w1 ⟨rfl, hw⟩; have hw := hw.symm; subst hw) | (go_at_call 61; refine (HV.out _).mono ?_; rintro e w1 ⟨rfl, hw⟩; have hw := hw.symm; subst hw))
              go_quiet (fail)
              go_wp2
              go_roundw
              case rel => exact ⟨1, by omega, by go_num, by rw [HQ.out, ← HR.out.2.2], below_drewN H1.out.2 _⟩
              case measure => simp [intOf]; omega
            · have q0 := cell_keep2 H1.out.1 (HP.out.1 (by omega))
              obtain ⟨j, hj⟩ : ∃ j, k = j + 1 := ⟨k - 1, by omega⟩
              have q1 : decide ((0 : Int) < (k : Int)) = true := by simp; omega
              have q2 : decide (0 < k) = true := by simp; omega
              have q3 : (k : Int) - 1 = (j : Int) := by omega
              have q4 : (j : Int) < (L.length : Int) := by omega
              rw [show k - 1 = j by omega] at q0
              have HJ := Lib.hid (And.intro hj hk0)
              clear hj hk0
              by_cases hle : xa ≤ la
              · have hr2 := hr.trans (if_pos hle)
                have HQ := Lib.hid hr2
                clear hr hr2 ht hv ht0
                go_upto_region 9 with (first | (go_at_call 55; refine (HT.out _).mono ?_; rintro e w1 ⟨rfl, hw⟩; have hw := hw.symm; subst hw) | (go_at_call 61; refine (HV.out _).mono ?_; rintro e w1 ⟨rfl, hw⟩; have hw := hw.symm; subst hw))
                go_quiet (fail)
                go_wp2
                go_ret
                exact ⟨by rw [HX.out.2.1, HQ.out]; rfl, HX.out.1.trans ((below_drewN H1.out.2 _).mono HX.out.1.size)⟩
              · have hr2 := hr.trans (if_neg hle)
                have hle2 : decide (xa ≤ la) = false := decide_eq_false hle
                have HQ := Lib.hid hr2
                clear hr hr2 ht hv ht0
                go_upto_region 9 with (first | (go_at_call 55; refine (HT.out _).mono ?_; rintro e w1 ⟨rfl, hw⟩; have hw := hw.symm; subst hw) | (go_at_call 61; refine (HV.out _).mono ?_; rintro e w1 ⟨rfl, hw⟩; have hw := hw.symm; subst hw))
                go_quiet (fail)
                go_wp2
                go_roundw
                case rel => exact ⟨k + 1, by omega, by go_num, by rw [HQ.out, ← HR.out.2.2], below_drewN H1.out.2 _⟩
                case measure => simp [intOf]; omega
      · obtain rfl : k = L.length := by omega
        rw [List.drop_length] at hck
        have HR := Lib.hid (And.intro hck hbw)
        clear hck hbw
        go_wp2
        go_ret
        exact ⟨by rw [HX.out.2.1, HR.out.1]; rfl, HX.out.1.trans (HR.out.2.mono HX.out.1.size)⟩
end Sx
end Go.Proofs.YtionocafkaemiaaDoor
namespace Go.Proofs.YtionocafkaemiaaDoor
open Go.RowKit Go.Lib
namespace Sx

def valS (L : List Sm) (t : Int) : Int × Int := if checkS L ≠ 0 then (0, checkS L) else if inT t = false then (0, 7) else if idx L t < 0 then (0, 4) else ((sm L (upto L t - 1)).v, 0)
set_option maxRecDepth 100000 in
set_option maxHeartbeats 4000000 in
theorem atR_ok (A : Option Addr) (c : Nat) (L : List Sm) (t : Int) (W : World) (hL : SAt W A c L) (hs : OkS L) : Calls Tryd.prog 64 #[sv A L.length c, .int .i64 t] W fun e w' => e = .returned (.int .i64 (idx L t)) ∧ Below W.heap.size W w' := by
  have hb := below_box W (.cells #[.slice A L.length c] 24)
  have hn := one_at (new_at W (.cells #[.slice A L.length c] 24))
  have hcm := hL.2.1
  have hlc := hL.1
  have hlen := hs.len
  unfold maxLen at hcm
  have hLV := hL.below hb (Nat.le_refl _)
  have HX := Lib.hid (And.intro hb (And.intro hLV hs))
  clear hb hLV hL hs
  go_enter Tryd.func64, Tryd.ntmps64
  go_upto_region 1 with (fail)
  generalize W.alloc (.cells #[.slice A L.length c] 24) = V at *
  go_wp2_with (fail)
  go_loopw [5] (fun i wr => ∃ k : Nat, k ≤ L.length ∧ i = .int .i64 ((k : Int) - 1) ∧ (∀ j, k ≤ j → j < L.length → t < (sm L j).a) ∧ wr = V) (fun i _ => (intOf i + 1).toNat)
  case atStart => exact ⟨L.length, Nat.le_refl _, rfl, fun j h1 h2 => by omega, rfl⟩
  case round =>
    obtain ⟨k, hk, rfl, hgt, rfl⟩ := hrel
    rcases Nat.eq_zero_or_pos k with rfl | hk0
    · have hu : idx L t = -1 := by unfold idx; rw [upto_is (Nat.zero_le _) (fun i hi => by omega) hgt]; rfl
      have HU := Lib.hid hu
      clear hu hgt
      go_wp2
      go_ret
      exact ⟨by rw [HU.out]; rfl, HX.out.1⟩
    · obtain ⟨j, hj⟩ : ∃ j, k = j + 1 := ⟨k - 1, by omega⟩
      have hq : (k : Int) - 1 = (j : Int) := by omega
      obtain ⟨g, o, rfl, hg, d0, d1⟩ := HX.out.2.1.s2 (j := j) (by omega)
      have hjl : (j : Int) < (L.length : Int) := by omega
      rw [hq]
      have hstep : t < (sm L j).a → ∀ i, j ≤ i → i < L.length → t < (sm L i).a := fun h i h1 h2 => by
        rcases Nat.lt_or_ge i k with h3 | h3
        · obtain rfl : i = j := by omega
          exact h
        · exact hgt i h3 h2
      have hend : ¬ t < (sm L j).a → idx L t = (j : Int) := fun h => by
        unfold idx
        rw [upto_is (k := k) hk (fun i hi => ?_) hgt]
        · omega
        · rcases Nat.lt_or_ge i j with h3 | h3
          · have := HX.out.2.2.lt h3 (by omega); omega
          · obtain rfl : i = j := by omega
            omega
      generalize (sm L j).a = xa at *
      have HS := Lib.hid (And.intro hstep (And.intro hend hj))
      clear hstep hend hj hgt hq hk0
      by_cases hgt : xa > t
      · have HN := Lib.hid (HS.out.1 hgt)
        go_wp2
        go_roundw
        case rel => exact ⟨j, by omega, by go_num, HN.out, trivial⟩
        case measure => simp [intOf]; try omega
      · have HN := Lib.hid (HS.out.2.1 hgt)
        go_wp2
        go_ret
        exact ⟨by rw [HN.out]; rfl, HX.out.1⟩
theorem S3.below {W w1 w2 : World} {n b b2 o : Nat} {v x : Value} (s : Below n W w1 ∧ w1.cell? ⟨b, 0, none⟩ = some v ∧ w1.cell? ⟨b2, o, none⟩ = some x) (hb : Below w1.heap.size w1 w2) (hn : n ≤ W.heap.size := by exact Nat.le_refl _) : Below n W w2 ∧ w2.cell? ⟨b, 0, none⟩ = some v ∧ w2.cell? ⟨b2, o, none⟩ = some x :=
  ⟨s.1.trans (hb.mono (Nat.le_trans hn s.1.size)), cell_keep2 hb s.2.1, cell_keep2 hb s.2.2⟩
set_option maxHeartbeats 4000000 in
theorem valueR_ok (A : Option Addr) (c : Nat) (L : List Sm) (t : Int) (W : World) (hL : SAt W A c L) : Calls Tryd.prog 35 #[sv A L.length c, .int .i64 t] W fun e w' => e = .returned (.tuple #[.int .i64 (valS L t).1, .int .i64 (valS L t).2]) ∧ Below W.heap.size W w' := by
  have hb := below_box W (.cells #[.slice A L.length c] 24)
  have hn := one_at (new_at W (.cells #[.slice A L.length c] 24))
  have hcm := hL.2.1
  have hlc := hL.1
  unfold maxLen at hcm
  have hCK := fun V (hV : Below W.heap.size W V) => checkR_ok A c L V (hL.below hV (Nat.le_refl _))
  have HT := Lib.hid (fun V => timeR_ok t V)
  by_cases hck : checkS L = 0
  · have hs := (checkS_ok L).1 hck
    have hAT := fun V (hV : Below W.heap.size W V) => atR_ok A c L t V (hL.below hV (Nat.le_refl _)) hs
    have hv : valS L t = if inT t = false then (0, 7) else if idx L t < 0 then (0, 4) else ((sm L (upto L t - 1)).v, 0) := by unfold valS; rw [if_neg (by omega)]
    rw [hck] at hCK
    have HX := Lib.hid (And.intro hb (And.intro hCK (And.intro hAT (And.intro hL hv))))
    clear hb hCK hAT hL hv hck
    cases ht : inT t with
    | false =>
      rw [ht] at HT HX
      have hv := HX.out.2.2.2.2.trans (if_pos rfl)
      have HV := Lib.hid hv
      clear hv ht hs
      go_enter Tryd.func35, Tryd.ntmps35
      go_upto_region 1 with (fail)
      generalize W.alloc (.cells #[.slice A L.length c] 24) = V at *
      go_wp2_with (first | (go_at_call 36; refine (HX.out.2.1 _ HX.out.1).mono ?_; rintro e w1 ⟨rfl, hb1⟩; replace hn := cell_keep2 hb1 hn; have H1 := Lib.hid (HX.out.1.trans (hb1.mono HX.out.1.size)); clear hb1) | (go_at_call 55; refine (HT.out _).mono ?_; rintro e w2 ⟨rfl, hw⟩; have hw := hw.symm; subst hw))
      go_ret2
      exact ⟨by rw [HV.out]; rfl, H1.out⟩
    | true =>
      rw [ht] at HT HX
      have hv := HX.out.2.2.2.2.trans (if_neg (by simp))
      have hul := upto_le L t
      by_cases hi : idx L t < 0
      · have hv2 := hv.trans (if_pos hi)
        have HV := Lib.hid hv2
        clear hv hv2 ht hs
        generalize idx L t = ix at *
        go_enter Tryd.func35, Tryd.ntmps35
        go_upto_region 1 with (fail)
        generalize W.alloc (.cells #[.slice A L.length c] 24) = V at *
        go_wp2_with (first | (go_at_call 36; refine (HX.out.2.1 _ HX.out.1).mono ?_; rintro e w1 ⟨rfl, hb1⟩; replace hn := cell_keep2 hb1 hn; have H1 := Lib.hid (HX.out.1.trans (hb1.mono HX.out.1.size)); clear hb1) | (go_at_call 55; refine (HT.out _).mono ?_; rintro e w2 ⟨rfl, hw⟩; have hw := hw.symm; subst hw) | (go_at_call 64; refine (HX.out.2.2.1 _ H1.out).mono ?_; rintro e w3 ⟨rfl, hb3⟩; have H3 := Lib.hid (H1.out.trans (hb3.mono H1.out.size)); clear hb3))
        go_ret2
        exact ⟨by rw [HV.out]; rfl, H3.out⟩
      · have hv2 := hv.trans (if_neg hi)
        have HV := Lib.hid hv2
        obtain ⟨j, hj⟩ : ∃ j : Nat, upto L t = j + 1 := ⟨upto L t - 1, by unfold idx at hi; omega⟩
        have hix : idx L t = (j : Int) := by unfold idx; omega
        have hj1 : upto L t - 1 = j := by omega
        rw [hix] at HX hi
        rw [hj1] at HV
        have hjl : j < L.length := by omega
        have hjli : (j : Int) < (L.length : Int) := by omega
        have hjn : ¬ (j : Int) < 0 := by omega
        clear hv hv2 ht hs hj hix hj1 hul hi
        go_enter Tryd.func35, Tryd.ntmps35
        go_upto_region 1 with (fail)
        generalize W.alloc (.cells #[.slice A L.length c] 24) = V at *
        go_upto_region 8 with (first | (go_at_call 36; refine (HX.out.2.1 _ HX.out.1).mono ?_; rintro e w1 ⟨rfl, hb1⟩; replace hn := cell_keep2 hb1 hn; have H1 := Lib.hid (HX.out.1.trans (hb1.mono HX.out.1.size)); clear hb1) | (go_at_call 55; refine (HT.out _).mono ?_; rintro e w2 ⟨rfl, hw⟩; have hw := hw.symm; subst hw) | (go_at_call 64; refine (HX.out.2.2.1 _ H1.out).mono ?_; rintro e w3 ⟨rfl, hb3⟩; replace hn := cell_keep2 hb3 hn; have H3 := Lib.hid (H1.out.trans (hb3.mono H1.out.size)); clear hb3))
        have hL3 := HX.out.2.2.2.1.below H3.out (Nat.le_refl _)
        obtain ⟨g, o, rfl, hg, d0, d1⟩ := hL3.s2 hjl
        generalize (sm L j).v = xv at *
        have s0 : Below W.heap.size W w3.drew ∧ w3.drew.cell? ⟨W.heap.size, 0, none⟩ = some (.slice (some ⟨g, o, none⟩) L.length c) ∧ w3.drew.cell? ⟨g, o + j * 2 + 1, none⟩ = some (.int .i64 xv) := ⟨below_drew H3.out, hn, d1⟩
        have HAT := Lib.hid HX.out.2.2.1
        clear hL3 d0
        go_region_held3 (fun w' => Below W.heap.size W w' ∧ w'.cell? ⟨W.heap.size, 0, none⟩ = some (.slice (some ⟨g, o, none⟩) L.length c) ∧ w'.cell? ⟨g, o + j * 2 + 1, none⟩ = some (.int .i64 xv))
          (first | assumption | exact S3.below (by assumption) hb4)
          (first | (go_at_call 64; with_reducible refine (HAT.out _ (And.left (by assumption))).mono ?_; rintro e w4 ⟨rfl, hb4⟩))
        all_goals
          have hb4' : Below w3.heap.size w3 w4 := ⟨hb4.os, hb4.tape, hb4.output, hb4.size, hb4.block⟩
          have H4 := Lib.hid (H3.out.trans (hb4'.mono H3.out.size))
          clear hb4 hb4'
          go_wp2_with (fail)
          go_ret2
          exact ⟨by rw [HV.out]; rfl, H4.out⟩
  · have hv : valS L t = (0, checkS L) := by unfold valS; rw [if_pos hck]
    have hne : (checkS L == 0) = false := by simp [hck]
    have hne2 : (checkS L != 0) = true := by simp [hck]
    rw [hv]
    have HX := Lib.hid (And.intro hb hCK)
    clear hb hCK hL hv hck
    generalize checkS L = cv at *
    go_enter Tryd.func35, Tryd.ntmps35
    go_upto_region 1 with (fail)
    generalize W.alloc (.cells #[.slice A L.length c] 24) = V at *
    go_wp2_with (go_at_call 36; refine (HX.out.2 _ HX.out.1).mono ?_; rintro e w1 ⟨rfl, hb1⟩; have H1 := Lib.hid (HX.out.1.trans (hb1.mono HX.out.1.size)); clear hb1)
    go_ret2
    exact ⟨rfl, H1.out⟩
end Sx
end Go.Proofs.YtionocafkaemiaaDoor
namespace Go.Proofs.YtionocafkaemiaaDoor
open Go.RowKit Go.Lib
namespace Sx

set_option maxHeartbeats 2000000 in
theorem isTime_ok (t : Int) (w : World) : Calls Tryd.prog 49 #[.int .i64 t] w fun e w' => e = .returned (.bool (inT t)) ∧ w' = w := by
  unfold inT
  by_cases h : 0 ≤ t
  · have h' : t ≥ 0 := h
    rw [decide_eq_true h, Bool.true_and]
    go_enter Tryd.func49, Tryd.ntmps49
    go_wp2
    go_ret
    exact ⟨rfl, rfl⟩
  · have h' : ¬ t ≥ 0 := h
    rw [decide_eq_false h, Bool.false_and]
    go_enter Tryd.func49, Tryd.ntmps49
    go_wp2
    go_ret
    exact ⟨rfl, rfl⟩
set_option maxHeartbeats 2000000 in
theorem isValue_ok (t : Int) (w : World) : Calls Tryd.prog 59 #[.int .i64 t] w fun e w' => e = .returned (.bool (inT t)) ∧ w' = w := by
  unfold inT
  by_cases h : 0 ≤ t
  · have h' : t ≥ 0 := h
    rw [decide_eq_true h, Bool.true_and]
    go_enter Tryd.func59, Tryd.ntmps59
    go_wp2
    go_ret
    exact ⟨rfl, rfl⟩
  · have h' : ¬ t ≥ 0 := h
    rw [decide_eq_false h, Bool.false_and]
    go_enter Tryd.func59, Tryd.ntmps59
    go_wp2
    go_ret
    exact ⟨rfl, rfl⟩
set_option maxRecDepth 100000 in
set_option maxHeartbeats 4000000 in
theorem check_ok (A : Option Addr) (c : Nat) (L : List Sm) (W : World) (hL : SAt W A c L) : Calls Tryd.prog 24 #[sv A L.length c] W fun e w' => e = .returned (.int .i64 (checkS L)) ∧ Below W.heap.size W w' := by
  have hb := below_box W (.cells #[.slice A L.length c] 24)
  have hn := one_at (new_at W (.cells #[.slice A L.length c] 24))
  have hcm := hL.2.1
  have hlc := hL.1
  unfold maxLen at hcm
  by_cases h5 : 500 < L.length
  · have hr : checkS L = 3 := if_pos h5
    have HX := Lib.hid (And.intro hb hr)
    clear hb hn hr hL
    go_enter Tryd.func24, Tryd.ntmps24
    go_wp2
    go_ret
    exact ⟨by rw [HX.out.2]; rfl, HX.out.1⟩
  · have hr : checkS L = chkF (-1) L := if_neg h5
    have hLV := hL.below hb (Nat.le_refl _)
    have HX := Lib.hid (And.intro hb (And.intro hr hLV))
    clear hb hr hLV hL
    go_enter Tryd.func24, Tryd.ntmps24
    go_upto_region 1 with (fail)
    generalize W.alloc (.cells #[.slice A L.length c] 24) = V at *
    have HN := Lib.hid hn
    go_upto_region 5 with (fail)
    clear hn
    go_loopw [3, 13] (fun la i wr => ∃ (k : Nat) (l : Int), k ≤ L.length ∧ i = .int .i64 (k : Int) ∧ la = .int .i64 l ∧ chkF (-1) L = chkF l (L.drop k) ∧ Below V.heap.size V wr) (fun _ i _ => L.length - (intOf i).toNat)
    case atStart => exact ⟨0, -1, Nat.zero_le _, rfl, rfl, rfl, Below.refl _ _⟩
    case round =>
      obtain ⟨k, la, hk, rfl, rfl, hck, hbw⟩ := hrel
      by_cases hlt : k < L.length
      · have hLw := HX.out.2.2.below hbw (Nat.le_refl _)
        obtain ⟨g, o, rfl, hg, d0, d1⟩ := hLw.s2 hlt
        rw [drop_next (sm_get hlt), chk_next] at hck
        generalize sm L k = x at *
        obtain ⟨xa, xv⟩ := x
        dsimp only at hck d0 d1
        have HR := Lib.hid (And.intro hck hbw)
        have HT := Lib.hid (fun V => isTime_ok xa V)
        have HV := Lib.hid (fun V => isValue_ok xv V)
        clear hck hbw hLw
        go_upto_region 7 with (fail)
        obtain ⟨V1, hV1⟩ : ∃ V1, V1 = wr.alloc (.cells #[.int .i64 xa, .int .i64 xv] 49) := ⟨_, rfl⟩
        rw [← hV1]
        obtain ⟨ub, hub⟩ : ∃ ub, ub = wr.heap.size := ⟨_, rfl⟩
        rw [← hub]
        have hbx : V1.heap[ub]? = some (.cells #[.int .i64 xa, .int .i64 xv] 49 (0, 0)) := by rw [hV1, hub, heapAlloc, if_pos rfl]
        have hbV : Below wr.heap.size wr V1 := by rw [hV1]; exact below_box _ _
        obtain ⟨u0, u1⟩ := two_at hbx
        have H1 := Lib.hid (HR.out.2.trans (hbV.mono HR.out.2.size))
        clear hV1 hub hbx hbV d0 d1
        cases ht : inT xa with
        | false =>
          rw [ht] at HT
          have HQ := Lib.hid (HR.out.1.trans (if_pos (by rw [ht]; rfl)))
          clear ht
          go_wp2_with (go_at_call 49; refine (HT.out _).mono ?_; rintro e w1 ⟨rfl, hw⟩; have hw := hw.symm; subst hw)
          go_ret
          exact ⟨by rw [HX.out.2.1, HQ.out]; rfl, HX.out.1.trans (H1.out.mono HX.out.1.size)⟩
        | true =>
          rw [ht] at HT
          cases hv : inT xv with
          | false =>
            rw [hv] at HV
            have HQ := Lib.hid (HR.out.1.trans (if_pos (by rw [ht, hv]; rfl)))
            clear ht hv
            go_wp2_with (first | (go_at_call 49; refine (HT.out _).mono ?_; rintro e w1 ⟨rfl, hw⟩; have hw := hw.symm; subst hw) | (go_at_call 59; refine (HV.out _).mono ?_; rintro e w1 ⟨rfl, hw⟩; have hw := hw.symm; subst hw))
            go_ret
            exact ⟨by rw [HX.out.2.1, HQ.out]; rfl, HX.out.1.trans (H1.out.mono HX.out.1.size)⟩
          | true =>
            rw [hv] at HV
            have hr := HR.out.1.trans (if_neg (by rw [ht, hv]; simp))
            clear ht hv
            by_cases hle : xa ≤ la
            · have HQ := Lib.hid (hr.trans (if_pos hle))
              clear hr
              go_wp2_with (first | (go_at_call 49; refine (HT.out _).mono ?_; rintro e w1 ⟨rfl, hw⟩; have hw := hw.symm; subst hw) | (go_at_call 59; refine (HV.out _).mono ?_; rintro e w1 ⟨rfl, hw⟩; have hw := hw.symm; subst hw))
              go_ret
              exact ⟨by rw [HX.out.2.1, HQ.out]; rfl, HX.out.1.trans (H1.out.mono HX.out.1.size)⟩
            · have HQ := Lib.hid (hr.trans (if_neg hle))
              clear hr
              go_wp2_with (first | (go_at_call 49; refine (HT.out _).mono ?_; rintro e w1 ⟨rfl, hw⟩; have hw := hw.symm; subst hw) | (go_at_call 59; refine (HV.out _).mono ?_; rintro e w1 ⟨rfl, hw⟩; have hw := hw.symm; subst hw))
              go_roundw
              case rel => exact ⟨k + 1, xa, by omega, by go_num, rfl, HQ.out, H1.out⟩
              case measure => simp [intOf]; omega
      · obtain rfl : k = L.length := by omega
        rw [List.drop_length] at hck
        have HR := Lib.hid (And.intro hck hbw)
        clear hck hbw
        go_wp2
        go_ret
        exact ⟨by rw [HX.out.2.1, HR.out.1]; rfl, HX.out.1.trans (HR.out.2.mono HX.out.1.size)⟩
end Sx
end Go.Proofs.YtionocafkaemiaaDoor
