/- find and Owner of the reference. Plain laws: what the reference finds is what holder finds. Owner of the reference. Rows of slabs that are appended, as a step of a region that draws. -/
import Derived.Test.YtlknhbcambdccaaK30
import Derived.Test.YtlknhbcambdccaaK27
import Derived.Test.YtlknhbcambdccaaK16
import Derived.Test.YtlknhbcambdccaaK28
namespace Go.Proofs.Ytlknhbcambdccaa
open Go.RowKit
namespace Sl
open Bu

theorem RefAt.drawn {w : World} {own : Own?} {r : Nat} {Bp : Addr} {s o kp : Nat} {q : List RS} (h : RefAt w own r Bp s o kp q) (m : Nat) : RefAt (w.drewN m) own r Bp s o kp q := h.same (Nat.le_refl _) fun _ _ _ => ⟨rfl, rfl⟩

/-- What find returns. -/
def FindR (s : Nat) (q : List RS) (at_ : Int) (e : Ending) : Prop :=
  (∃ (j i : Nat) (x : RS), q[j]? = some x ∧ i < x.1.us.length ∧ ((addrS s x.1 i : Nat) : Int) = at_ ∧ e = .returned (.tuple #[.int .i64 (j : Int), .int .i64 (i : Int)])) ∨
  ((∀ (j i : Nat) (x : RS), q[j]? = some x → i < x.1.us.length → ((addrS s x.1 i : Nat) : Int) ≠ at_) ∧ e = .returned (.tuple #[.int .i64 (-1), .int .i64 (-1)]))

set_option maxRecDepth 100000 in
set_option maxHeartbeats 4000000 in
theorem findR_ok (w : World) (own : Own?) (r : Nat) (Bp : Addr) (s o kp N : Nat) (L : List Blk) (q : List RS) (h : RefAt w own r Bp s o kp q) (H : CaOk (refC s o kp q) N L) (at_ : Int) :
    Calls Try.prog 82 #[.pointer (some ⟨r, 0, none⟩), .int .i64 at_] w fun e w' => FindR s q at_ e ∧ ∃ m, w' = w.drewN m := by
  obtain ⟨n, hn⟩ : ∃ n, n = q.length := ⟨_, rfl⟩
  have hlen := ok_len H
  rw [show (refC s o kp q).sl.length = n by show (q.map (·.1)).length = n; rw [List.length_map, hn]] at hlen
  obtain ⟨A0, c0, hcell, hrow, _⟩ := h.cell
  have hn0 := hrow.len
  have hc0 := hrow.cap
  unfold maxLen at hc0
  rw [← hn] at hcell hn0
  obtain ⟨_, _, _, _, c4, _⟩ := five_cells hcell
  have hs : s ≤ 1024 := H.sz.2.1
  have HX := Lib.hid (And.intro h (And.intro H hn))
  clear h H hn hcell hrow
  go_enter Try.func82, Try.ntmps82
  go_wp2_with (fail)
  go_loopw [6] (fun i wr => ∃ k : Nat, k ≤ n ∧ i = .int .i64 (k : Int) ∧ (∀ (j i : Nat) (x : RS), j < k → q[j]? = some x → i < x.1.us.length → ((addrS s x.1 i : Nat) : Int) ≠ at_) ∧ ∃ m, wr = w.drewN m) (fun i _ => n - (intOf i).toNat)
  case atStart => exact ⟨0, Nat.zero_le _, rfl, fun j i x hj => by omega, 0, rfl⟩
  case round =>
    obtain ⟨k, hk, rfl, hno, m, hm⟩ := hrel
    have e0 : (0 : Int) ≤ (k : Int) := by omega
    replace c4 : wr.cell? ⟨r, 4, none⟩ = some (.slice A0 n c0) := by rw [hm]; exact c4
    by_cases hlt : k < n
    · have e1 : (k : Int) < (n : Int) := by omega
      have hkk : IntKind.i64.wrap ((k : Int) + 1) = ((k + 1 : Nat) : Int) := by rw [IntWalk.i64_in _ (by omega)]; rfl
      obtain ⟨x, hx⟩ : ∃ x, q[k]? = some x := ⟨_, List.getElem?_eq_getElem (by have := HX.out.2.2; omega)⟩
      have hbo := ok_bounds HX.out.2.1 (List.mem_of_getElem? (refC_get hx))
      obtain ⟨p, hp⟩ : ∃ p, p = x.1.us.length := ⟨_, rfl⟩
      have hpl : p ≤ 128 := by omega
      have hpg := hbo.1
      have HR := Lib.hid (And.intro hno (And.intro hm (And.intro hx hp)))
      clear hno hm hx hbo hp
      go_wp2_with (fail)
      go_loopw [7] (fun i wi => ∃ t : Nat, t ≤ p ∧ i = .int .i64 (t : Int) ∧ (∀ i : Nat, i < t → ((addrS s x.1 i : Nat) : Int) ≠ at_) ∧ ∃ m, wi = w.drewN m) (fun i _ => p - (intOf i).toNat)
      case atStart => exact ⟨0, Nat.zero_le _, rfl, fun i hi => by omega, _, HR.out.2.1⟩
      case round =>
        obtain ⟨t, ht, rfl, hno2, m2, hm2⟩ := hrel
        have e2 : (0 : Int) ≤ (t : Int) := by omega
        have hq1 := HX.out.1.drawn m2
        rw [← hm2] at hq1
        obtain ⟨g, oo, cap, hc, hl1, _, hg, d0, d1⟩ := ref_row hq1 HR.out.2.2.1
        obtain ⟨_, _, _, _, c4', _⟩ := five_cells hc
        rw [← HX.out.2.2] at c4'
        rw [← HR.out.2.2.2] at d1
        by_cases hlt2 : t < p
        · have e3 : (t : Int) < (p : Int) := by omega
          have htt : IntKind.i64.wrap ((t : Int) + 1) = ((t + 1 : Nat) : Int) := by rw [IntWalk.i64_in _ (by omega)]; rfl
          have had := addressR_ok wr own r Bp s o kp q hq1 k t x HR.out.2.2.1 (by omega) (by omega) hs
          obtain ⟨ad, hadd⟩ : ∃ ad, ad = addrS s x.1 t := ⟨_, rfl⟩
          rw [← hadd] at had
          have HA := Lib.hid had
          have HV := Lib.hid (And.intro hno2 (And.intro hm2 hadd))
          clear hno2 hm2 hadd had hq1 hc d0
          go_wp2_with (go_at_call 79; fail)
          refine HA.out.mono ?_
          rintro _ W2 ⟨rfl, m3, hW2⟩
          have hw2 : W2 = w.drewN (m2 + m3) := by rw [hW2, HV.out.2.1]; exact World.drewN_drewN ..
          have HW2 := Lib.hid hw2
          clear hW2 hw2
          by_cases hat : (ad : Int) = at_
          · have hatb : ((ad : Int) == at_) = true := by rw [beq_iff_eq]; exact hat
            have HT := Lib.hid hat
            clear hat
            go_wp2_with (fail)
            go_ret2
            exact ⟨.inl ⟨k, t, x, HR.out.2.2.1, by have := HR.out.2.2.2; omega, by rw [← HV.out.2.2]; exact HT.out, rfl⟩, _, HW2.out⟩
          · have hatb : ((ad : Int) == at_) = false := by rw [beq_eq_false_iff_ne]; exact hat
            have HT := Lib.hid hat
            clear hat
            go_wp2_with (fail)
            go_roundw
            case rel =>
              refine ⟨t + 1, by omega, by go_num, fun i hi => ?_, _, HW2.out⟩
              by_cases e : i = t
              · rw [e, ← HV.out.2.2]; exact HT.out
              · exact HV.out.1 i (by omega)
            case measure => simp [intOf]; omega
        · obtain rfl : t = p := by omega
          have e3 : ¬ ((t : Nat) : Int) < (t : Int) := by omega
          have HV := Lib.hid (And.intro hno2 hm2)
          clear hno2 hm2 hq1 hc d0
          go_wp2_with (fail)
          go_roundw
          case rel =>
            refine ⟨k + 1, by omega, by go_num, fun j i y hj hy hi => ?_, _, HV.out.2⟩
            by_cases e : j = k
            · subst e
              have := HR.out.2.2.1.symm.trans hy
              injection this with this
              subst this
              exact HV.out.1 i (by have := HR.out.2.2.2; omega)
            · exact HR.out.1 j i y (by omega) hy hi
          case measure => simp [intOf]; omega
    · obtain rfl : k = n := by omega
      have e1 : ¬ ((k : Nat) : Int) < (k : Int) := by omega
      have HR := Lib.hid (And.intro hno hm)
      clear hno hm
      go_wp2_with (fail)
      go_ret2
      exact ⟨.inr ⟨fun j i x hx hi => HR.out.1 j i x (by have := (List.getElem?_eq_some_iff.1 hx).1; have := HX.out.2.2; omega) hx hi, rfl⟩, _, HR.out.2⟩
end Sl
end Go.Proofs.Ytlknhbcambdccaa
namespace Go.Proofs.Ytlknhbcambdccaa
namespace Sl
open Bu

theorem hold_hit {C : Ca} {N : Nat} {L : List Blk} (h : CaOk C N L) {j : Nat} {x : Slb} {at_ : Int} (hx : C.sl[j]? = some x) (hh : hitS C.order at_ x) : holdS C.order 0 C.sl at_ = some (j, (at_ - 64 * (x.pg : Int)).toNat) := by
  have hm := List.mem_of_getElem? hx
  have := holdS_at (order := C.order) (at_ := at_) 0 j hx hh fun k y hk hy hh2 => by
    obtain ⟨hk1, hk2⟩ := List.getElem?_eq_some_iff.1 hy
    obtain ⟨hj1, hj2⟩ := List.getElem?_eq_some_iff.1 hx
    have hlt := List.pairwise_iff_getElem.1 h.asc k j hk1 hj1 hk
    rw [hk2, hj2] at hlt
    have hf := slabs_far h (List.mem_of_getElem? hy) hm hlt
    unfold hitS at hh hh2
    omega
  rw [this, Nat.zero_add]

theorem div_at {s i e : Nat} (hs : 0 < s) (he : e < s) : (i * s + e) / s = i ∧ (i * s + e) % s = e := by
  constructor
  · rw [Nat.mul_comm, Nat.mul_add_div hs, Nat.div_eq_of_lt he, Nat.add_zero]
  · rw [Nat.mul_comm, Nat.mul_add_mod, Nat.mod_eq_of_lt he]

theorem owner_at {C : Ca} {N : Nat} {L : List Blk} (h : CaOk C N L) {j i : Nat} {x : Slb} {v : Bool} {at_ : Int} (hx : C.sl[j]? = some x) (hv : x.us[i]? = some v) (h1 : ((addrS C.size x i : Nat) : Int) ≤ at_) (h2 : at_ < ((addrS C.size x i : Nat) : Int) + (C.size : Int)) : ownerC C at_ = some (addrS C.size x i, v) := by
  have hm := List.mem_of_getElem? hx
  have hi := (List.getElem?_eq_some_iff.1 hv).1
  have s1 := slot_in h (i := i) (by rw [← h.len x hm]; exact hi)
  have h8 := h.sz.1
  obtain ⟨e, he, rfl⟩ : ∃ e : Nat, e < C.size ∧ at_ = ((addrS C.size x i + e : Nat) : Int) := ⟨(at_ - ((addrS C.size x i : Nat) : Int)).toNat, by omega, by omega⟩
  have hit : hitS C.order ((addrS C.size x i + e : Nat) : Int) x := by unfold hitS addrS; omega
  have hd : ((((addrS C.size x i + e : Nat) : Int) - 64 * (x.pg : Int))).toNat = i * C.size + e := by unfold addrS; omega
  obtain ⟨k1, _⟩ := div_at (i := i) (show 0 < C.size by omega) he
  unfold ownerC
  rw [hold_hit h hx hit, hd]
  show (match C.sl[j]? with | none => none | some x => match x.us[(i * C.size + e) / C.size]? with | none => none | some v => some (addrS C.size x ((i * C.size + e) / C.size), v)) = _
  rw [hx, k1]
  show (match x.us[i]? with | none => none | some v => some (addrS C.size x i, v)) = _
  rw [hv]

theorem owner_no {C : Ca} {N : Nat} {L : List Blk} (h : CaOk C N L) {at_ : Int} (hno : ∀ (j i : Nat) (x : Slb), C.sl[j]? = some x → i < x.us.length → ¬ (((addrS C.size x i : Nat) : Int) ≤ at_ ∧ at_ < ((addrS C.size x i : Nat) : Int) + (C.size : Int))) : ownerC C at_ = none := by
  unfold ownerC
  cases hh : holdS C.order 0 C.sl at_ with
  | none => rfl
  | some jd =>
    obtain ⟨j, d⟩ := jd
    obtain ⟨x, _, hx, hit, rfl⟩ := holdS_some hh
    rw [Nat.sub_zero] at hx
    dsimp only
    rw [hx]
    dsimp only
    have h8 := h.sz.1
    unfold hitS at hit
    obtain ⟨d, hd⟩ : ∃ d, d = (at_ - 64 * (x.pg : Int)).toNat := ⟨_, rfl⟩
    rw [← hd]
    have hdm := Nat.div_add_mod d C.size
    have hml := Nat.mod_lt d (show 0 < C.size by omega)
    cases hu : x.us[d / C.size]? with
    | none => rfl
    | some v =>
      exfalso
      refine hno j _ x hx (List.getElem?_eq_some_iff.1 hu).1 ?_
      have e1 : d / C.size * C.size = C.size * (d / C.size) := Nat.mul_comm _ _
      obtain ⟨P, hP⟩ : ∃ P, P = d / C.size * C.size := ⟨_, rfl⟩
      obtain ⟨R, hR⟩ : ∃ R, R = d % C.size := ⟨_, rfl⟩
      unfold addrS
      rw [← hP] at e1 ⊢
      rw [← hR, ← e1] at hdm
      rw [← hR] at hml
      omega

/-- Free of an object's address. -/
theorem free_hit {C : Ca} {N : Nat} {L : List Blk} (h : CaOk C N L) {j i : Nat} {x : Slb} (hx : C.sl[j]? = some x) (hi : i < x.us.length) : freeC C L ((addrS C.size x i : Nat) : Int) =
    if x.us[i]? ≠ some true then (9, C.sl, L)
    else if emptyS (setS C.sl j i false) ≤ C.keep then (0, setS C.sl j i false, L)
    else match lastE (setS C.sl j i false) with
      | none => (0, setS C.sl j i false, L)
      | some k => match (setS C.sl j i false)[k]? with
        | none => (0, setS C.sl j i false, L)
        | some y => (0, (setS C.sl j i false).eraseIdx k, delB L (y.pg, C.order)) := by
  have h8 := h.sz.1
  obtain ⟨k1, k2⟩ := div_at (i := i) (s := C.size) (e := 0) (by omega) (by omega)
  rw [Nat.add_zero] at k1 k2
  unfold freeC
  rw [hold_of h hx hi]
  dsimp only
  rw [hx]
  dsimp only
  rw [k1, k2, if_neg (by omega)]
  rfl

/-- Free of an address where no object begins. -/
theorem free_miss {C : Ca} {N : Nat} {L : List Blk} (h : CaOk C N L) {at_ : Int} (hno : ∀ (j i : Nat) (x : Slb), C.sl[j]? = some x → i < x.us.length → ((addrS C.size x i : Nat) : Int) ≠ at_) : freeC C L at_ = (4, C.sl, L) := by
  unfold freeC
  cases hh : holdS C.order 0 C.sl at_ with
  | none => rfl
  | some jd =>
    obtain ⟨j, d⟩ := jd
    obtain ⟨x, _, hx, hit, rfl⟩ := holdS_some hh
    rw [Nat.sub_zero] at hx
    dsimp only
    rw [hx]
    dsimp only
    have h8 := h.sz.1
    unfold hitS at hit
    obtain ⟨d, hd⟩ : ∃ d, d = (at_ - 64 * (x.pg : Int)).toNat := ⟨_, rfl⟩
    rw [← hd]
    have hdm := Nat.div_add_mod d C.size
    by_cases hc : d % C.size ≠ 0 ∨ x.us.length ≤ d / C.size
    · rw [if_pos hc]
    · exfalso
      have hc1 : d % C.size = 0 := Classical.byContradiction fun e => hc (.inl e)
      have hc2 : d / C.size < x.us.length := by omega
      refine hno j _ x hx hc2 ?_
      have e1 : d / C.size * C.size = C.size * (d / C.size) := Nat.mul_comm _ _
      obtain ⟨P, hP⟩ : ∃ P, P = d / C.size * C.size := ⟨_, rfl⟩
      unfold addrS
      rw [← hP] at e1 ⊢
      rw [hc1, ← e1] at hdm
      omega
end Sl
end Go.Proofs.Ytlknhbcambdccaa
namespace Go.Proofs.Ytlknhbcambdccaa
open Go.RowKit
namespace Sl
open Bu

/-- What Owner returns. -/
def OwnR2 (s : Nat) (q : List RS) (at_ : Int) (e : Ending) : Prop :=
  (∃ (j i : Nat) (x : RS) (v : Bool), q[j]? = some x ∧ x.1.us[i]? = some v ∧ (((addrS s x.1 i : Nat) : Int) ≤ at_ ∧ at_ < ((addrS s x.1 i : Nat) : Int) + (s : Int)) ∧ e = .returned (.tuple #[.int .i64 ((addrS s x.1 i : Nat) : Int), .bool v, .int .i64 0])) ∨
  ((∀ (j i : Nat) (x : RS), q[j]? = some x → i < x.1.us.length → ¬ (((addrS s x.1 i : Nat) : Int) ≤ at_ ∧ at_ < ((addrS s x.1 i : Nat) : Int) + (s : Int))) ∧ e = .returned (.tuple #[.int .i64 0, .bool false, .int .i64 4]))

set_option maxRecDepth 100000 in
set_option maxHeartbeats 4000000 in
theorem ownerR_walk (w : World) (own : Own?) (r : Nat) (Bp : Addr) (s o kp N : Nat) (L : List Blk) (q : List RS) (h : RefAt w own r Bp s o kp q) (H : CaOk (refC s o kp q) N L) (at_ : Int) (ha1 : -9223372036854775808 ≤ at_) (ha2 : at_ < 9223372036854775808) :
    Calls Try.prog 58 #[.pointer (some ⟨r, 0, none⟩), .int .i64 at_] w fun e w' => OwnR2 s q at_ e ∧ ∃ m, w' = w.drewN m := by
  obtain ⟨n, hn⟩ : ∃ n, n = q.length := ⟨_, rfl⟩
  have hlen := ok_len H
  rw [show (refC s o kp q).sl.length = n by show (q.map (·.1)).length = n; rw [List.length_map, hn]] at hlen
  obtain ⟨A0, c0, hcell, hrow, _⟩ := h.cell
  have hn0 := hrow.len
  have hc0 := hrow.cap
  unfold maxLen at hc0
  rw [← hn] at hcell hn0
  obtain ⟨_, c1, _, _, c4, _⟩ := five_cells hcell
  have hs : s ≤ 1024 := H.sz.2.1
  have HX := Lib.hid (And.intro h (And.intro H hn))
  clear h H hn hcell hrow
  go_enter Try.func58, Try.ntmps58
  go_wp2_with (fail)
  go_loopw [7] (fun i wr => ∃ k : Nat, k ≤ n ∧ i = .int .i64 (k : Int) ∧ (∀ (j i : Nat) (x : RS), j < k → q[j]? = some x → i < x.1.us.length → ¬ (((addrS s x.1 i : Nat) : Int) ≤ at_ ∧ at_ < ((addrS s x.1 i : Nat) : Int) + (s : Int))) ∧ ∃ m, wr = w.drewN m) (fun i _ => n - (intOf i).toNat)
  case atStart => exact ⟨0, Nat.zero_le _, rfl, fun j i x hj => by omega, 0, rfl⟩
  case round =>
    obtain ⟨k, hk, rfl, hno, m, hm⟩ := hrel
    have e0 : (0 : Int) ≤ (k : Int) := by omega
    replace c4 : wr.cell? ⟨r, 4, none⟩ = some (.slice A0 n c0) := by rw [hm]; exact c4
    by_cases hlt : k < n
    · have e1 : (k : Int) < (n : Int) := by omega
      have hkk : IntKind.i64.wrap ((k : Int) + 1) = ((k + 1 : Nat) : Int) := by rw [IntWalk.i64_in _ (by omega)]; rfl
      obtain ⟨x, hx⟩ : ∃ x, q[k]? = some x := ⟨_, List.getElem?_eq_getElem (by have := HX.out.2.2; omega)⟩
      have hbo := ok_bounds HX.out.2.1 (List.mem_of_getElem? (refC_get hx))
      obtain ⟨p, hp⟩ : ∃ p, p = x.1.us.length := ⟨_, rfl⟩
      have hpl : p ≤ 128 := by omega
      have hpg := hbo.1
      have HR := Lib.hid (And.intro hno (And.intro hm (And.intro hx hp)))
      clear hno hm hx hbo hp
      go_wp2_with (fail)
      go_loopw [8] (fun i wi => ∃ t : Nat, t ≤ p ∧ i = .int .i64 (t : Int) ∧ (∀ i : Nat, i < t → ¬ (((addrS s x.1 i : Nat) : Int) ≤ at_ ∧ at_ < ((addrS s x.1 i : Nat) : Int) + (s : Int))) ∧ ∃ m, wi = w.drewN m) (fun i _ => p - (intOf i).toNat)
      case atStart => exact ⟨0, Nat.zero_le _, rfl, fun i hi => by omega, _, HR.out.2.1⟩
      case round =>
        obtain ⟨t, ht, rfl, hno2, m2, hm2⟩ := hrel
        have e2 : (0 : Int) ≤ (t : Int) := by omega
        have hq1 := HX.out.1.drawn m2
        rw [← hm2] at hq1
        obtain ⟨g, oo, cap, hc, hl1, _, hg, d0, d1⟩ := ref_row hq1 HR.out.2.2.1
        obtain ⟨_, _, _, _, c4', _⟩ := five_cells hc
        rw [← HX.out.2.2] at c4'
        rw [← HR.out.2.2.2] at d1
        by_cases hlt2 : t < p
        · have e3 : (t : Int) < (p : Int) := by omega
          have htt : IntKind.i64.wrap ((t : Int) + 1) = ((t + 1 : Nat) : Int) := by rw [IntWalk.i64_in _ (by omega)]; rfl
          have had := addressR_ok wr own r Bp s o kp q hq1 k t x HR.out.2.2.1 (by omega) (by omega) hs
          obtain ⟨ad, hadd⟩ : ∃ ad, ad = addrS s x.1 t := ⟨_, rfl⟩
          rw [← hadd] at had
          have HA := Lib.hid had
          have HV := Lib.hid (And.intro hno2 (And.intro hm2 hadd))
          clear hno2 hm2 hadd had hq1 hc d0
          go_wp2_with (go_at_call 79; fail)
          refine HA.out.mono ?_
          rintro _ W2 ⟨rfl, m3, hW2⟩
          have hw2 : W2 = w.drewN (m2 + m3) := by rw [hW2, HV.out.2.1]; exact World.drewN_drewN ..
          have HW2 := Lib.hid hw2
          clear hW2 hw2
          have hadl : ad ≤ 64 * 1024 + 128 * 1024 := by
            rw [HV.out.2.2]
            have h1 : t * s ≤ 128 * 1024 := Nat.mul_le_mul (by omega) hs
            have h2 : x.1.pg < 1024 := hpg
            unfold addrS
            omega
          have c5 : W2.cell? ⟨r, 1, none⟩ = some (.int .i64 (s : Int)) := by rw [HW2.out]; exact c1
          have c6 : W2.cell? ⟨r, 4, none⟩ = some (.slice (some ⟨g, oo, none⟩) n cap) := by rw [HW2.out]; rw [HV.out.2.1] at c4'; exact c4'
          have d2 : W2.cell? ⟨g, oo + k * 2 + 1, none⟩ = some (.slice (some ⟨x.2.1, 0, none⟩) p x.2.2) := by rw [HW2.out]; rw [HV.out.2.1] at d1; exact d1
          obtain ⟨v, hv⟩ : ∃ v, x.1.us[t]? = some v := ⟨_, List.getElem?_eq_getElem (by have := HR.out.2.2.2; omega)⟩
          have d3 : W2.cell? ⟨x.2.1, t, none⟩ = some (.bool v) := by
            rw [HW2.out]
            exact row_cell ((HX.out.1.used k x HR.out.2.2.1).2) (i := t) (v := .bool v) (by rw [bcells_get, hv]; rfl)
          have HVV := Lib.hid hv
          clear hv
          by_cases hat : (ad : Int) ≤ at_
          · have hatb : decide ((ad : Int) ≤ at_) = true := decide_eq_true hat
            have hsub : IntKind.i64.wrap (at_ - (ad : Int)) = at_ - (ad : Int) := IntWalk.i64_in _ (by omega)
            by_cases hat2 : at_ - (ad : Int) < (s : Int)
            · have hatc : decide (at_ - (ad : Int) < (s : Int)) = true := decide_eq_true hat2
              go_wp2_with (fail)
              go_quiet (fail)
              go_wp2_with (fail)
              go_ret3
              exact ⟨.inl ⟨k, t, x, v, HR.out.2.2.1, HVV.out, by rw [← HV.out.2.2]; omega, by rw [← HV.out.2.2]; rfl⟩, _, by rw [HW2.out]; exact World.drewN_drewN ..⟩
            · have hatc : decide (at_ - (ad : Int) < (s : Int)) = false := decide_eq_false hat2
              go_wp2_with (fail)
              go_roundw
              case rel =>
                refine ⟨t + 1, by omega, by go_num, fun i hi => ?_, _, HW2.out⟩
                by_cases e : i = t
                · rw [e, ← HV.out.2.2]; omega
                · exact HV.out.1 i (by omega)
              case measure => simp [intOf]; omega
          · have hatb : decide ((ad : Int) ≤ at_) = false := decide_eq_false hat
            go_wp2_with (fail)
            go_roundw
            case rel =>
              refine ⟨t + 1, by omega, by go_num, fun i hi => ?_, _, HW2.out⟩
              by_cases e : i = t
              · rw [e, ← HV.out.2.2]; omega
              · exact HV.out.1 i (by omega)
            case measure => simp [intOf]; omega
        · obtain rfl : t = p := by omega
          have e3 : ¬ ((t : Nat) : Int) < (t : Int) := by omega
          have HV := Lib.hid (And.intro hno2 hm2)
          clear hno2 hm2 hq1 hc d0
          go_wp2_with (fail)
          go_roundw
          case rel =>
            refine ⟨k + 1, by omega, by go_num, fun j i y hj hy hi => ?_, _, HV.out.2⟩
            by_cases e : j = k
            · subst e
              have := HR.out.2.2.1.symm.trans hy
              injection this with this
              subst this
              exact HV.out.1 i (by have := HR.out.2.2.2; omega)
            · exact HR.out.1 j i y (by omega) hy hi
          case measure => simp [intOf]; omega
    · obtain rfl : k = n := by omega
      have e1 : ¬ ((k : Nat) : Int) < (k : Int) := by omega
      have HR := Lib.hid (And.intro hno hm)
      clear hno hm
      go_wp2_with (fail)
      go_ret3
      exact ⟨.inr ⟨fun j i x hx hi => HR.out.1 j i x (by have := (List.getElem?_eq_some_iff.1 hx).1; have := HX.out.2.2; omega) hx hi, rfl⟩, _, HR.out.2⟩
end Sl
end Go.Proofs.Ytlknhbcambdccaa
namespace Go.Proofs.Ytlknhbcambdccaa
open Go.RowKit
namespace Sl
open Bu

set_option maxRecDepth 100000 in
theorem run_append_row (w : World) (ty : TypeId) (base : Nat) (v : Value) (X : List RS) (hown : w.ownsRow base 90 2 v X.length (rcells X))
    (A : Option Addr) (c : Nat) (M : List RS) (hM : RowAt w A c M) (hlen : X.length + M.length ≤ 100000) (hbase : base ≤ w.heap.size) :
    ∃ A' c' w', (Builtin.append_ #[67, 67] ty #[v, .slice A M.length c]).run Try.prog w = .ok (.slice A' (X ++ M).length c') w' ∧ OwnR w' base A' c' (X ++ M) ∧ w.grownBy w' v.ownBlock := by
  obtain ⟨i0, z0, hi0, hz0, hz1, hz2, hz3⟩ := info_open slblock_info
  have hcl : rcells (X ++ M) = rcells X ++ rcells M := rcells_add X M
  cases A with
  | none =>
    obtain rfl := hM.nc rfl
    have hM0 : M = [] := List.length_eq_zero_iff.1 (by have := hM.len; omega)
    subst hM0
    have hrun := run_append_owned_none (P := Try.prog) (w := w) base 67 ty 90 i0 2 Try.underlying67 hi0 v X.length (rcells X) hown
    obtain ⟨A', c', rfl⟩ := ownR_value hown
    rw [List.append_nil]
    exact ⟨A', c', w, hrun, hown, grown_refl _ _⟩
  | some ad =>
    obtain ⟨v', w', hr, h2, h3, _⟩ := run_append_own (P := Try.prog) w base 67 ty 90 i0 z0 2 32 Try.underlying67 hi0 hz0 hz1 hz2 hz3 (by omega) v X.length (rcells X) hown ad M.length c (rcells M) (rcells_len M) (row_addr hM) (rcells_cell M) (by unfold maxLen; omega) (by omega) hbase
    rw [← List.length_append, ← hcl] at h2
    obtain ⟨A', c', rfl⟩ := ownR_value h2
    exact ⟨A', c', w', hr, h2, h3⟩

theorem step_append_row {w : World} {ops : Array Oper} {o : Oper} {a : Act} {K : Act → World → Prop} {Q : Exit → Act → World → Prop} {E : Prop} (hgd : o.guard = none) (s x : Operand)
    (ho : o.op = .call { callee := .builtin .append, args := #[s, x], argTypes := #[67, 67] })
    (base : Nat) (v : Value) (X : List RS) (hs : a.eval s = v) (hown : w.ownsRow base 90 2 v X.length (rcells X))
    (A : Option Addr) (c : Nat) (M : List RS) (hx : a.eval x = .slice A M.length c) (hM : RowAt w A c M) (hlen : X.length + M.length ≤ 100000) (hbase : base ≤ w.heap.size)
    (h : ∀ A' c' w', OwnR w' base A' c' (X ++ M) → w.grownBy w' v.ownBlock → K (a.put o.dst (.slice A' (X ++ M).length c')) w') :
    if Region.wanted o (yielded ops a.tmps) = true then Oper.wp Try.prog o a w K Q else E := by
  have hw : Region.wanted o (yielded ops a.tmps) = true := by simp [Region.wanted, hgd]
  rw [if_pos hw]
  obtain ⟨A', c', w', hrun, h1, h2⟩ := run_append_row w o.type base v X hown A c M hM hlen hbase
  unfold Oper.wp
  simp only [execOp, ho, resolve, invoke, builtin, Sem.run_bind, Sem.run_pure, Result.andThen_ok, List.map_toArray, List.map_cons, List.map_nil, hs, hx, hrun]
  exact h A' c' w' h1 h2
theorem row_emptyR (w : World) (B : Nat) (hB : B ≤ w.heap.size) : (w.alloc (.cells #[] 90)).ownsRow B 90 2 (.slice (some ⟨w.heap.size, 0, none⟩) 0 0) 0 (rcells []) :=
  ⟨rfl, .inr ⟨w.heap.size, 0, #[], rfl, hB, by rw [heapAlloc, if_pos rfl], Nat.le_refl _, Nat.zero_le _, rfl, rfl⟩⟩
end Sl
end Go.Proofs.Ytlknhbcambdccaa
