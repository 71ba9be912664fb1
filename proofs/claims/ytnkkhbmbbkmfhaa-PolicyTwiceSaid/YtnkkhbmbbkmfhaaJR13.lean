/- The specification: most. -/
import Derived.Test.YtnkkhbmbbkmfhaaJR12
import Derived.Test.YtnkkhbmbbkmfhaaK2
import Derived.Deep.CutBlock
namespace Go.Proofs.Ytnkkhbmbbkmfhaa
open Go.RowKit
namespace Py

theorem EAt.drew2 {α : Type} {enc : α → List Value} {k : Nat} {w : World} {A : Option Addr} {c : Nat} {L : List α} (h : EAt enc k w A c L) (q : Nat) : EAt enc k (w.drewN q) A c L := h
/-- Pages that wait, in memory. -/
structure HS (V wr : World) (A : Option Addr) (c : Nat) (H : List Wt) : Prop where
  row : OwnE eid 2 wr V.heap.size 112 A c H
  below : Below V.heap.size V wr
theorem HS.drew {V wr : World} {A : Option Addr} {c : Nat} {H : List Wt} (h : HS V wr A c H) (q : Nat) : HS V (wr.drewN q) A c H := ⟨h.row, below_drewN h.below q⟩
theorem HS.next {V wr w' : World} {A A' : Option Addr} {c c' : Nat} {H H' : List Wt} (h : HS V wr A c H) (hr : OwnE eid 2 w' wr.heap.size 112 A' c' H') (hb : Below wr.heap.size wr w') : HS V w' A' c' H' := ⟨row_low hr h.below.size, h.below.trans (hb.mono h.below.size)⟩
/-- What the loop over the ticks has. -/
structure MS (V wr : World) (L : List PU) (h w : Int) (lim : Nat) (τ : Int) (A : Option Addr) (c : Nat) (st' : PS) : Prop where
  hs : HS V wr A c st'.2
  tk : ∃ st, Tk L (stepsV L) h w lim τ st st'
  ph : Ph τ st' (bndT L τ)
  len : st'.2.length ≤ lim
  lo : -1 ≤ τ
  hi : τ ≤ 1000000000
theorem pd_same {L : List PU} {h w : Int} {lim : Nat} {τ : Int} {st st' : PS} (T : Tk L (stepsV L) h w lim τ st st') : PD st'.2 := T.inv.pd.perm T.same.q
theorem MS.next {V wr w' : World} {L : List PU} {h w : Int} {lim : Nat} {τ : Int} {A A' : Option Addr} {c c' : Nat} {st' : PS} (hL : OkL L) (_hc : OkC h w) (h1 : MS V wr L h w lim τ A c st') (hlt : τ < endV L) {st2 : PS} (he : st2 = tickR h w lim L (afterV L τ) st') (hs : HS V w' A' c' st2.2) (hp : Ph (afterV L τ) st2 (bndT L τ + (L.length : Int) * 1001000000000)) : MS V w' L h w lim (afterV L τ) A' c' st2 := by
  obtain ⟨st, T⟩ := h1.tk
  have T2 := T.next hL (stepsV_is hL) hlt
  rw [← he] at T2
  have hb := afterV_bd hlt
  have he := endV_le hL.ok
  have hlo := h1.lo
  exact ⟨hs, ⟨_, T2⟩, hp.mono (bndT_next hL hlt), by rw [T2.same.q.length_eq]; exact T2.inv.len, by omega, by omega⟩

/-- A slice's length. -/
def lenOf : Value → Nat
  | .slice _ n _ => n
  | _ => 0
attribute [local irreducible] wpQuiet
set_option maxRecDepth 100000 in
set_option maxHeartbeats 8000000 in
theorem mostR_ok (A : Option Addr) (c : Nat) (L : List PU) (h w : Int) (lim : Nat) (W : World) (hU : UAt W A c L) (hL : OkL L) (hc : OkC h w) (hlim : lim ≤ 1024) :
    Calls Try.prog 43 #[.slice A L.length c, cbx h w, .int .i64 (lim : Int)] W fun e w' => e = .returned (.int .i64 (mostV L (stepsV L) h w lim)) ∧ Below W.heap.size W w' := by
  have hcap := hU.2.1
  have hlc := hU.1
  have hlen := hL.len
  unfold maxLen at hcap
  have hb := below_box W (.cells #[.int .i64 h, .int .i64 w] 24)
  have hnb : (W.alloc (.cells #[.int .i64 h, .int .i64 w] 24)).heap[W.heap.size]? = some (.cells #[.int .i64 h, .int .i64 w] 24 (0, 0)) := by rw [heapAlloc, if_pos rfl]
  have hX := hU.below hb (Nat.le_refl _)
  have HX := Lib.hid (And.intro hX (And.intro hb hnb))
  have h0 := hc.h0; have h1 := hc.h1; have w0 := hc.w0; have w1 := hc.w1
  have HC := Lib.hid (And.intro hL hc)
  clear hU hb hnb hX hL hc
  go_enter Try.func43, Try.ntmps43
  go_upto_region 1 with (fail)
  generalize hV : W.alloc (.cells #[.int .i64 h, .int .i64 w] 24) = V at *
  obtain ⟨b, hbe⟩ : ∃ b, b = W.heap.size := ⟨_, rfl⟩
  rw [← hbe] at HX ⊢
  have HW := Lib.hid (And.intro hV hbe)
  clear hV hbe
  have hstart : MS V V L h w lim (-1) none 0 (0, []) := ⟨⟨owne_nil _ _ _, Below.refl _ _⟩, ⟨_, Tk.start HC.out.1 (stepsV_is HC.out.1) h w lim⟩, ⟨Int.le_refl _, by have := (bndT_le HC.out.1 (-1)).1; simpa using this, fun x hx => (List.not_mem_nil hx).elim⟩, Nat.zero_le _, by omega, by omega⟩
  have H0 := Lib.hid hstart
  clear hstart
  go_wp2_with (fail)
  go_loopw [7, 8, 9] (fun n v t wr => ∃ (τ : Int) (B : Option Addr) (d : Nat) (st : PS), t = .int .i64 τ ∧ n = .int .i64 st.1 ∧ v = .slice B st.2.length d ∧ MS V wr L h w lim τ B d st) (fun _ _ t _ => (endV L - intOf t).toNat)
  case atStart => exact ⟨-1, none, 0, (0, []), rfl, rfl, rfl, H0.out⟩
  case round =>
    obtain ⟨τ, B, d, st, rfl, rfl, rfl, hm⟩ := hrel
    obtain ⟨W0, hW0⟩ : ∃ W0, W0 = wr := ⟨_, rfl⟩
    subst hW0
    have hXr := HX.out.1.below hm.hs.below (Nat.le_refl _)
    have hE := endR_ok A c L W0 hXr
    have hAf := afterR_ok A c L τ W0 hXr
    have HE := Lib.hid hE
    have HA := Lib.hid hAf
    have HM := Lib.hid hm
    have hlo := hm.lo
    have hhi := hm.hi
    have hee := endV_le HC.out.1.ok
    clear hE hAf hXr hm
    by_cases hlt : τ < endV L
    · have hab := afterV_bd hlt
      generalize hte : afterV L τ = t at *
      have HT := Lib.hid hte
      have HLT := Lib.hid hlt
      have ht0 : 0 ≤ t := by omega
      have ht1 : t ≤ 1000000000 := by omega
      generalize hen : endV L = en at *
      have HEN := Lib.hid hen
      clear hte hen
      obtain ⟨n, H⟩ := st
      dsimp only
      have hpt := (HM.out.ph.later (show τ ≤ t by omega))
      have hpd : PD H := by obtain ⟨s0, T0⟩ := HM.out.tk; exact pd_same T0
      have hHl := HM.out.len
      dsimp only at hHl
      have hbl := bndT_le HC.out.1 τ
      generalize hMe : bndT L τ = M0 at *
      have HP := Lib.hid (And.intro hpt (And.intro hpd hMe))
      clear hpt hpd hMe
      go_upto_block 2 with (first
        | (go_at_call 64; refine HE.out.mono ?_; rintro e w2 ⟨rfl, hw2⟩; subst hw2)
        | (go_at_call 65; refine HA.out.mono ?_; rintro e w3 ⟨rfl, hw3⟩; subst hw3))
      go_cut [7, 8, 15] from 10 to 63 (fun x v z wx => z = undef ∧ ∃ A' c', x = .int .i64 (begR h w t L (n, H)).1 ∧ v = .slice A' (begR h w t L (n, H)).2.length c' ∧ HS V wx A' c' (begR h w t L (n, H)).2)
      case first =>
        have HH0 := Lib.hid HM.out.hs
        go_wp2_with (fail)
        go_loopw [7, 8, 10] (fun x v i wr => ∃ (k : Nat) (A' : Option Addr) (c' : Nat), k ≤ L.length ∧ i = .int .i64 k ∧ x = .int .i64 (begR h w t (L.take k) (n, H)).1 ∧ v = .slice A' (begR h w t (L.take k) (n, H)).2.length c' ∧ HS V wr A' c' (begR h w t (L.take k) (n, H)).2) (fun _ _ i _ => L.length - (intOf i).toNat)
        case atStart => exact ⟨0, B, d, Nat.zero_le _, rfl, rfl, rfl, HH0.out⟩
        case round =>
          obtain ⟨k, A', c', hk, rfl, rfl, rfl, hs⟩ := hrel
          by_cases hkl : k < L.length
          · have hX := HX.out.1.below hs.below (Nat.le_refl _)
            have hsn := begR_snoc hkl h w t (n, H)
            have hph := HP.out.1.begR HC.out.2 ht1 L k hk
            have hsub := begR_sub h w t (L.take k) (n, H)
            have hzr : wr.heap[b]? = some (.cells #[.int .i64 h, .int .i64 w] 24 (0, 0)) := by rw [hs.below.block b (lt_of_heap HX.out.2.2)]; exact HX.out.2.2
            have z0 : wr.cell? ⟨b, 0, none⟩ = some (.int .i64 h) := by rw [cell_of_row _ _ _ _ _ _ hzr]; rfl
            have z1 : wr.cell? ⟨b, 1, none⟩ = some (.int .i64 w) := by rw [cell_of_row _ _ _ _ _ _ hzr]; rfl
            generalize begR h w t (L.take k) (n, H) = cur at *
            obtain ⟨m, Q⟩ := cur
            dsimp only at hs hsub ⊢
            have hpdQ : PD Q := HP.out.2.1.sublist hsub
            have hQl : Q.length ≤ 1024 := Nat.le_trans hsub.length_le (Nat.le_trans hHl hlim)
            have hmb := hph.bd
            have hm0 := hph.nn
            dsimp only at hmb hm0
            have hea := (OwnE.at EID hs.row).1
            have hQc := hea.1
            have hQm := hea.2.1
            unfold maxLen at hQm
            obtain ⟨g, o, rfl, hg, u0, u1, u2⟩ := hX.at hkl
            generalize (use L k).f = f at *
            generalize (use L k).p = p at *
            have HS1 := Lib.hid (And.intro hs (And.intro hsn (And.intro hea (And.intro hpdQ hph))))
            clear hs hsn hea hpdQ hph hsub hX u2 hzr
            by_cases hft : f = t
            · have hbf : (f != t) = false := by simp [hft]
              have hsn : begR h w t (L.take (k + 1)) (n, H) = bg h w (m, Q) t p := HS1.out.2.1.trans (if_pos hft)
              have HN := Lib.hid hsn
              have hfi := findR_ok A' c' Q p wr HS1.out.2.2.1
              clear hft hsn
              rcases fdI_spec p Q 0 with ⟨e1, e2⟩ | ⟨dd, x, e1, e2, e3, e4⟩
              · rw [e2] at hfi
                have hbg : bg h w (m, Q) t p = (m + w, Q) := by unfold bg; dsimp only; rw [e1, del_none e1]; rfl
                have HF := Lib.hid (And.intro hfi hbg)
                clear hfi hbg e1 e2
                go_wp2_with (go_at_call 66; refine HF.out.1.mono ?_; rintro e w4 ⟨rfl, hw4⟩; subst hw4)
                go_roundw
                case rel => exact ⟨k + 1, A', c', by omega, by go_num, by rw [HN.out, HF.out.2], by rw [HN.out, HF.out.2], by rw [HN.out, HF.out.2]; exact HS1.out.1⟩
                case measure => simp [intOf]; omega
              · rw [e4, Nat.zero_add] at hfi
                have hdl := (List.getElem?_eq_some_iff.1 e1).1
                have hbg : bg h w (m, Q) t p = (m + (t - x.s) * h, Q.eraseIdx dd) := by unfold bg; dsimp only; rw [e3, del_at HS1.out.2.2.2.1 e1 e2]; rfl
                have hxs := HS1.out.2.2.2.2.at_ x (List.mem_of_getElem? e1)
                have hhb := hold_bd HC.out.2 hxs.1 hxs.2 ht1
                obtain ⟨gq, oq, rfl, hgq, q0, q1⟩ := HS1.out.2.2.1.id2 hdl
                have hwx : wt Q dd = x := by have := wt_get hdl; rw [e1] at this; injection this with this; exact this.symm
                rw [hwx] at q1
                obtain ⟨xs, xp⟩ := x
                dsimp only at hbg hxs hhb q1
                obtain ⟨y, hy⟩ : ∃ y, y = (t - xs) * h := ⟨_, rfl⟩
                rw [← hy] at hhb hbg
                have qy : (t - xs) * h = y := hy.symm
                have hwo := fun q => withoutR_ok (some ⟨gq, oq, none⟩) c' Q dd hdl (by omega) (wr.drewN q) (HS1.out.2.2.1)
                have HF := Lib.hid (And.intro hfi (And.intro hbg hwo))
                clear hfi hbg e1 e2 e3 e4 hy hwx hwo q0
                go_upto_region 13 with (go_at_call 66; refine HF.out.1.mono ?_; rintro e w4 ⟨rfl, hw4⟩; subst hw4)
                go_quiet (fail)
                go_wp2_with (go_at_call 67; refine (HF.out.2.2 _).mono ?_; rintro e w5 ⟨A5, c5, rfl, hr5, hb5⟩; have H5 := Lib.hid (And.intro hr5 hb5); clear hr5 hb5)
                go_roundw
                case rel => exact ⟨k + 1, A5, c5, by omega, by go_num, by rw [HN.out, HF.out.2.1], by rw [HN.out, HF.out.2.1], by rw [HN.out, HF.out.2.1]; exact (HS1.out.1.drew _).next H5.out.1 H5.out.2⟩
                case measure => simp [intOf]; omega
            · have hbf : (f != t) = true := by simp [hft]
              have hsn : begR h w t (L.take (k + 1)) (n, H) = (m, Q) := HS1.out.2.1.trans (if_neg hft)
              have HN := Lib.hid hsn
              clear hft hsn
              go_wp2_with (fail)
              go_roundw
              case rel => exact ⟨k + 1, A', c', by omega, by go_num, by rw [HN.out], by rw [HN.out], by rw [HN.out]; exact HS1.out.1⟩
              case measure => simp [intOf]; omega
          · obtain rfl : k = L.length := by omega
            rw [List.take_length] at hs ⊢
            have HS1 := Lib.hid hs
            clear hs
            go_wp2_with (fail)
            go_meet
            exact ⟨rfl, A', c', rfl, rfl, HS1.out⟩
      case rest =>
        obtain ⟨rfl, A1, c1, rfl, rfl, hs⟩ := hcut
        have hph := HP.out.1.begR HC.out.2 ht1 L L.length (Nat.le_refl _)
        rw [List.take_length] at hph
        have hsub := begR_sub h w t L (n, H)
        have hH1l : (begR h w t L (n, H)).2.length ≤ 1024 := Nat.le_trans hsub.length_le (Nat.le_trans hHl hlim)
        generalize hb1 : begR h w t L (n, H) = st1 at *
        obtain ⟨n1, H1⟩ := st1
        dsimp only at hs hH1l ⊢
        obtain ⟨W1, hW1⟩ : ∃ W1, W1 = wc := ⟨_, rfl⟩
        subst hW1
        have HS1 := Lib.hid (And.intro hs (And.intro hph hb1))
        clear hs hph hsub hb1
        go_upto_block 4 with (fail)
        go_cut [8, 15] from 10 to 86 (fun v z wx => z = undef ∧ ∃ A' c', v = .slice A' (enR t L H1).length c' ∧ HS V wx A' c' (enR t L H1))
        case first =>
          go_wp2_with (fail)
          go_loopw [8, 12] (fun v i wr => ∃ (k : Nat) (A' : Option Addr) (c' : Nat), k ≤ L.length ∧ i = .int .i64 k ∧ v = .slice A' (enR t (L.take k) H1).length c' ∧ HS V wr A' c' (enR t (L.take k) H1)) (fun _ i _ => L.length - (intOf i).toNat)
          case atStart => exact ⟨0, A1, c1, Nat.zero_le _, rfl, rfl, HS1.out.1⟩
          case round =>
            obtain ⟨k, A', c', hk, rfl, rfl, hs⟩ := hrel
            by_cases hkl : k < L.length
            · have hX := HX.out.1.below hs.below (Nat.le_refl _)
              have hsn := enR_snoc hkl t H1
              have hel := enR_len t H1 (L.take k)
              rw [List.length_take] at hel
              generalize enR t (L.take k) H1 = Q at *
              have hQl : Q.length ≤ 1300 := by omega
              have hsz := hs.below.size
              obtain ⟨g, o, rfl, hg, u0, u1, u2⟩ := hX.at hkl
              generalize (use L k).t = f at *
              generalize (use L k).p = p at *
              have HS2 := Lib.hid (And.intro hs hsn)
              clear hs hsn hX u1 hel
              by_cases hft : f = t
              · have hbf : (f == t) = true := by simp [hft]
                have hsn : enR t (L.take (k + 1)) H1 = Q ++ [⟨t, p⟩] := HS2.out.2.trans (if_pos hft)
                have HN := Lib.hid hsn
                clear hft hsn
                go_wp2_with (at_builtin; refine wpList_e EID Try.underlying108 idle_info (by decide) ?_ (.tmp 77) (.tmp 85) ?_ V.heap.size A' c' Q ?_ (HS2.out.1.row.alloc _) (some ⟨wr.heap.size, 0, none⟩) 1 [⟨t, p⟩] ?_ (oneId _ _ ⟨t, p⟩) (fun h => by cases h) ?_ ?_ ?_; (exact rfl); (exact rfl); (exact rfl); (exact rfl); (simp; omega); (simp; omega); intro A8 c8 w8 h8 b8 _ _; obtain ⟨U, hU⟩ : ∃ U, U = Q ++ [⟨t, p⟩] := ⟨_, rfl⟩; rw [← hU] at h8 ⊢; have H8 := Lib.hid (And.intro h8 (And.intro b8 hU)); clear h8 b8 hU)
                go_roundw
                case rel => exact ⟨k + 1, A8, c8, by omega, by go_num, by rw [HN.out, ← H8.out.2.2], by rw [HN.out, ← H8.out.2.2]; exact ⟨H8.out.1, (HS2.out.1.below.alloc hsz _).trans H8.out.2.1⟩⟩
                case measure => simp [intOf]; omega
              · have hbf : (f == t) = false := by simp [hft]
                have hsn : enR t (L.take (k + 1)) H1 = Q := HS2.out.2.trans (if_neg hft)
                have HN := Lib.hid hsn
                clear hft hsn
                go_wp2_with (fail)
                go_roundw
                case rel => exact ⟨k + 1, A', c', by omega, by go_num, by rw [HN.out], by rw [HN.out]; exact HS2.out.1⟩
                case measure => simp [intOf]; omega
            · obtain rfl : k = L.length := by omega
              rw [List.take_length] at hs ⊢
              have HS2 := Lib.hid hs
              clear hs
              go_wp2_with (fail)
              go_meet
              exact ⟨rfl, A', c', rfl, HS2.out⟩
        case rest =>
          obtain ⟨rfl, A2, c2, rfl, hs⟩ := hcut
          have hph := HS1.out.2.1.enR ht0 L L.length (Nat.le_refl _)
          rw [List.take_length] at hph
          have hel := enR_len t H1 L
          generalize hb2 : enR t L H1 = H2 at *
          dsimp only at hph
          obtain ⟨W2, hW2⟩ : ∃ W2, W2 = wc := ⟨_, rfl⟩
          subst hW2
          have hH2l : H2.length ≤ 1300 := by omega
          have hfin : tickR h w lim L t (n, H) = popR lim h t H2.length (n1, H2) := by
            unfold tickR
            dsimp only
            rw [HS1.out.2.2]
            dsimp only
            rw [hb2]
          generalize hM2 : M0 + (L.length : Int) * 1000000000 + (L.length : Int) * 1000000000000 = M2 at *
          have HS2 := Lib.hid (And.intro hs (And.intro hph (And.intro hb2 (And.intro hfin hM2))))
          have hM2b : M2 ≤ 90000000000000000 := by omega
          clear hs hph hel hb2 hfin hM2
          go_wp2_with (fail)
          go_loopw [7, 8] (fun x v wr => ∃ (m : Int) (Q : List Wt) (A' : Option Addr) (c' : Nat), x = .int .i64 m ∧ v = .slice A' Q.length c' ∧ HS V wr A' c' Q ∧ popR lim h t Q.length (m, Q) = popR lim h t H2.length (n1, H2) ∧ Ph t (m, Q) M2 ∧ Q.length ≤ 1300) (fun _ v _ => lenOf v)
          case atStart => exact ⟨n1, H2, A2, c2, rfl, rfl, HS2.out.1, rfl, HS2.out.2.1, hH2l⟩
          case round =>
            obtain ⟨m, Q, A', c', rfl, rfl, hs, hpop, hph, hQl⟩ := hrel
            have hmb := hph.bd
            have hm0 := hph.nn
            dsimp only at hmb hm0
            have hea := (OwnE.at EID hs.row).1
            have hQc := hea.1
            have hQm := hea.2.1
            unfold maxLen at hQm
            have hzr : wr.heap[b]? = some (.cells #[.int .i64 h, .int .i64 w] 24 (0, 0)) := by rw [hs.below.block b (lt_of_heap HX.out.2.2)]; exact HX.out.2.2
            have z0 : wr.cell? ⟨b, 0, none⟩ = some (.int .i64 h) := by rw [cell_of_row _ _ _ _ _ _ hzr]; rfl
            by_cases hll : lim < Q.length
            · have hmi := minI_lt Q Q.length (by omega)
              obtain ⟨W3, hW3⟩ : ∃ W3, W3 = wr := ⟨_, rfl⟩
              subst hW3
              have HS3 := Lib.hid (And.intro hs (And.intro hpop (And.intro hph hea)))
              clear hs hpop hph hea hzr
              go_upto_block 8 with (fail)
              go_cut [13, 14] from 87 to 134 (fun v _ wx => v = .int .i64 ((minI Q Q.length : Nat) : Int) ∧ ∃ q, wx = W3.drewN q)
              case first =>
                clear z0
                go_wp2_with (fail)
                go_loopw [13, 14] (fun x i wr => ∃ k : Nat, 1 ≤ k ∧ k ≤ Q.length ∧ i = .int .i64 k ∧ x = .int .i64 ((minI Q k : Nat) : Int) ∧ ∃ q, wr = W3.drewN q) (fun _ i _ => Q.length - (intOf i).toNat)
                case atStart => exact ⟨1, Nat.le_refl _, by omega, rfl, by have : minI Q 1 = 0 := (by have := minI_lt Q 1 (by omega); omega); rw [this]; rfl, 0, rfl⟩
                case round =>
                  obtain ⟨k, hk1, hk, rfl, rfl, q, hq⟩ := hrel
                  have hea := EAt.drew2 HS3.out.2.2.2 q
                  rw [← hq] at hea
                  have HQ := Lib.hid hq
                  clear hq
                  by_cases hkl : k < Q.length
                  · have hmk := minI_lt Q k (by omega)
                    obtain ⟨g, o, rfl, hg, a0, a1⟩ := hea.id2 hkl
                    obtain ⟨g', o', hgo, _, b0, b1⟩ := hea.id2 (j := minI Q k) (by omega)
                    injection hgo with hgo; injection hgo with hg1 hg2 _
                    subst hg1; subst hg2
                    have hnx : minI Q (k + 1) = if wltb (wt Q k) (wt Q (minI Q k)) then k else minI Q k := rfl
                    have hwv : wltb (wt Q k) (wt Q (minI Q k)) = (decide ((wt Q k).s < (wt Q (minI Q k)).s) || (decide ((wt Q k).s = (wt Q (minI Q k)).s) && decide ((wt Q k).p < (wt Q (minI Q k)).p))) := rfl
                    rw [hwv] at hnx
                    generalize (wt Q k).s = ks at *
                    generalize (wt Q k).p = kp at *
                    generalize (wt Q (minI Q k)).s = ms at *
                    generalize (wt Q (minI Q k)).p = mp at *
                    generalize hmj : minI Q k = j at *
                    have hjl : j < Q.length := by omega
                    have HN := Lib.hid (And.intro hnx hmj)
                    clear hnx hwv hea hmj hmk
                    by_cases c1 : ks < ms
                    · have hr := HN.out.1.trans (if_pos (by simp [c1]))
                      have HR := Lib.hid hr
                      clear hr
                      go_upto_region 25 with (fail)
                      go_quiet (fail)
                      go_wp2_with (fail)
                      go_roundw
                      case rel => exact ⟨k + 1, by omega, by omega, by go_num, by rw [HR.out], _, by rw [HQ.out, drew_drewN]⟩
                      case measure => simp [intOf]; omega
                    · by_cases c2 : ks = ms
                      · have hbq : (ks == ms) = true := by simp [c2]
                        by_cases c3 : kp < mp
                        · have hr := HN.out.1.trans (if_pos (by simp [c2, c3]))
                          have HR := Lib.hid hr
                          clear hr c2
                          go_upto_region 25 with (fail)
                          go_quiet (fail)
                          go_wp2_with (fail)
                          go_roundw
                          case rel => exact ⟨k + 1, by omega, by omega, by go_num, by rw [HR.out], _, by rw [HQ.out, drew_drewN]⟩
                          case measure => simp [intOf]; omega
                        · have hr := HN.out.1.trans (if_neg (by simp [c1, c3]))
                          have HR := Lib.hid hr
                          clear hr c2
                          go_upto_region 25 with (fail)
                          go_quiet (fail)
                          go_wp2_with (fail)
                          go_roundw
                          case rel => exact ⟨k + 1, by omega, by omega, by go_num, by rw [HR.out], _, by rw [HQ.out, drew_drewN]⟩
                          case measure => simp [intOf]; omega
                      · have hbq : (ks == ms) = false := by simp [c2]
                        have hr := HN.out.1.trans (if_neg (by simp [c1, c2]))
                        have HR := Lib.hid hr
                        clear hr c2
                        go_upto_region 25 with (fail)
                        go_quiet (fail)
                        go_wp2_with (fail)
                        go_roundw
                        case rel => exact ⟨k + 1, by omega, by omega, by go_num, by rw [HR.out], _, by rw [HQ.out, drew_drewN]⟩
                        case measure => simp [intOf]; omega
                  · obtain rfl : k = Q.length := by omega
                    clear hea
                    go_wp2_with (fail)
                    go_meet
                    exact ⟨rfl, _, HQ.out⟩
              case rest =>
                obtain ⟨rfl, q, hq⟩ := hcut
                have hea := EAt.drew2 HS3.out.2.2.2 q
                rw [← hq] at hea
                have y0 : wc.cell? ⟨b, 0, none⟩ = some (.int .i64 h) := by rw [hq]; exact z0
                obtain ⟨g, o, rfl, hg, a0, a1⟩ := hea.id2 hmi
                have hpp := HS3.out.2.2.1.pop HC.out.2 ht1 hmi
                have hxs := HS3.out.2.2.1.at_ _ (List.mem_of_getElem? (wt_get hmi))
                have hhb := hold_bd HC.out.2 hxs.1 hxs.2 ht1
                have hpn : popR lim h t Q.length (m, Q) = popR lim h t (Q.eraseIdx (minI Q Q.length)).length (m + (t - (wt Q (minI Q Q.length)).s) * h, Q.eraseIdx (minI Q Q.length)) := by
                  rw [List.length_eraseIdx_of_lt hmi]
                  have e : Q.length = (Q.length - 1) + 1 := by omega
                  have e2 : popR lim h t ((Q.length - 1) + 1) (m, Q) = popR lim h t (Q.length - 1) (m + (t - (wt Q (minI Q Q.length)).s) * h, Q.eraseIdx (minI Q Q.length)) := by
                    show (if lim < Q.length then _ else _) = _
                    rw [if_pos hll]
                  rw [← e] at e2
                  exact e2
                dsimp only at hpp hxs
                generalize hmj : minI Q Q.length = j at *
                have hwo := fun q2 => withoutR_ok (some ⟨g, o, none⟩) c' Q j hmi (by omega) (wc.drewN q2) (EAt.drew2 hea q2)
                generalize (wt Q j).s = xs at *
                obtain ⟨y, hy⟩ : ∃ y, y = (t - xs) * h := ⟨_, rfl⟩
                rw [← hy] at hpp hpn hhb
                have qy : (t - xs) * h = y := hy.symm
                have hel : (Q.eraseIdx j).length + 1 = Q.length := by rw [List.length_eraseIdx_of_lt hmi]; omega
                have HF := Lib.hid (And.intro hpp (And.intro (hpn.symm.trans HS3.out.2.1) (And.intro hwo (And.intro hq hel))))
                clear hpp hpn hwo hq hel hy hea a0 z0 hmj
                go_upto_region 27 with (fail)
                go_quiet (fail)
                go_wp2_with (go_at_call 67; refine (HF.out.2.2.1 _).mono ?_; rintro e w5 ⟨A5, c5, rfl, hr5, hb5⟩; have H5 := Lib.hid (And.intro hr5 hb5); clear hr5 hb5)
                go_roundw
                case rel =>
                  refine ⟨m + y, Q.eraseIdx j, A5, c5, rfl, rfl, ?_, HF.out.2.1, HF.out.1, by have := HF.out.2.2.2.2; omega⟩
                  have e1 := HS3.out.1.drew q
                  rw [← HF.out.2.2.2.1] at e1
                  exact (e1.drew _).next H5.out.1 H5.out.2
                case measure =>
                  have := HF.out.2.2.2.2
                  show (Q.eraseIdx j).length < Q.length
                  omega
            · have hpi := popR_id (lim := lim) h t (st := (m, Q)) (by show Q.length ≤ lim; omega) Q.length
              have hres : (m, Q) = tickR h w lim L t (n, H) := by rw [HS2.out.2.2.2.1, ← hpop, hpi]
              have HF := Lib.hid (And.intro hs (And.intro hres hph))
              clear hs hpop hph hea hzr hpi hres
              go_wp2_with (fail)
              have e1 := MS.next HC.out.1 HC.out.2 HM.out (by rw [HEN.out]; exact HLT.out) (st2 := (m, Q)) (by rw [HT.out]; exact HF.out.2.1) HF.out.1 (by rw [HT.out, HP.out.2.2]; exact HF.out.2.2.mono (by rw [← HS2.out.2.2.2.2]; omega))
              rw [HT.out] at e1
              have HFIN := Lib.hid e1
              clear e1
              go_roundw
              case rel =>
                exact ⟨t, A', c', (m, Q), rfl, rfl, rfl, HFIN.out⟩
              case measure => simp [intOf]; omega
    · obtain ⟨n, H⟩ := st
      have hph := HM.out.ph
      have hHl := HM.out.len
      have hfin : n + restS h (endV L) H = mostV L (stepsV L) h w lim := by
        obtain ⟨s0, T0⟩ := HM.out.tk
        exact T0.fin HC.out.1 (stepsV_is HC.out.1) (by omega)
      have hbl := bndT_le HC.out.1 τ
      have hsle : ∀ x, x ∈ H → x.s ≤ endV L := fun x hx => by
        obtain ⟨s0, T0⟩ := HM.out.tk
        obtain ⟨_, u, hu, _, h2⟩ := T0.inv.from_ x (T0.same.q.mem_iff.1 hx)
        rw [← h2]; exact endV_ge hu
      dsimp only at hHl ⊢
      have hxb : ∀ x, x ∈ H → 0 ≤ (endV L - x.s) * h ∧ (endV L - x.s) * h ≤ 1000000000000 ∧ 0 ≤ x.s ∧ x.s ≤ 1000000000 := fun x hx => by
        have h1 := hph.at_ x hx
        have h2 := hsle x hx
        have := hold_bd HC.out.2 h1.1 h2 hee
        exact ⟨this.1, this.2, h1.1, by omega⟩
      have hnb := hph.bd
      have hn0 := hph.nn
      dsimp only at hnb hn0
      have hEE := fun V (hV : Below W0.heap.size W0 V) => endR_ok A c L V ((HX.out.1.below HM.out.hs.below (Nat.le_refl _)).below hV (Nat.le_refl _))
      generalize hen : endV L = en at *
      have HF := Lib.hid (And.intro hfin (And.intro hxb hEE))
      have HH := Lib.hid HM.out.hs
      have hrs : ∀ k, k < H.length → restS h en (H.take (k + 1)) = restS h en (H.take k) + (en - (wt H k).s) * h := fun k hk => by
        unfold restS
        rw [take_next (wt_get hk), sum_add1]
      have HR := Lib.hid hrs
      have hen0 : 0 ≤ en := by rw [← hen]; exact endV_0 L
      clear hfin hxb hEE hph hsle hen hrs
      go_upto_region 29 with (go_at_call 64; refine HE.out.mono ?_; rintro e w2 ⟨rfl, hw2⟩; subst hw2)
      go_wp2_with (fail)
      go_loopw [7, 15] (fun x i wr => ∃ k : Nat, k ≤ H.length ∧ i = .int .i64 k ∧ x = .int .i64 (n + restS h en (H.take k)) ∧ 0 ≤ restS h en (H.take k) ∧ restS h en (H.take k) ≤ (k : Int) * 1000000000000 ∧ ∃ q, wr = w2.drewN q) (fun _ i _ => H.length - (intOf i).toNat)
      case atStart => exact ⟨0, Nat.zero_le _, rfl, by rw [List.take_zero]; show _ = Value.int .i64 (n + 0); rw [Int.add_zero], by rw [List.take_zero]; exact Int.le_refl _, by rw [List.take_zero]; exact Int.le_refl _, 0, rfl⟩
      case round =>
        obtain ⟨k, hk, rfl, rfl, hr0, hr1, q, hq⟩ := hrel
        have hs := HH.out.drew q
        rw [← hq] at hs
        have hbe := HF.out.2.2
        have hEw := fun q2 => hbe (wr.drewN q2) (by rw [hq, drew_drewN]; exact below_drewN (Below.refl _ _) _)
        have HQ := Lib.hid hq
        clear hq hbe
        by_cases hkl : k < H.length
        · have hea := (OwnE.at EID hs.row).1
          have hQm := hea.2.1
          have hQc := hea.1
          unfold maxLen at hQm
          have hzr : wr.heap[b]? = some (.cells #[.int .i64 h, .int .i64 w] 24 (0, 0)) := by rw [hs.below.block b (lt_of_heap HX.out.2.2)]; exact HX.out.2.2
          have z0 : wr.cell? ⟨b, 0, none⟩ = some (.int .i64 h) := by rw [cell_of_row _ _ _ _ _ _ hzr]; rfl
          obtain ⟨g, o, rfl, hg, a0, a1⟩ := hea.id2 hkl
          have hnx := HR.out k hkl
          obtain ⟨x0, x1, s0, s1⟩ := HF.out.2.1 _ (List.mem_of_getElem? (wt_get hkl))
          generalize (wt H k).s = xs at *
          generalize restS h en (H.take k) = r at *
          obtain ⟨y, hy⟩ : ∃ y, y = (en - xs) * h := ⟨_, rfl⟩
          rw [← hy] at hnx x0 x1
          have qy : (en - xs) * h = y := hy.symm
          have HN := Lib.hid hnx
          have HEw := Lib.hid hEw
          clear hy hnx hea hs hzr a0 hEw
          go_upto_region 32 with (fail)
          go_quiet ((go_at_call 64; with_reducible exact Calls.quiet_of_same (HEw.out _)))
          go_wp2_with (fail)
          go_roundw
          case rel => exact ⟨k + 1, by omega, by go_num, by rw [HN.out]; congr 1; omega, by rw [HN.out]; omega, by rw [HN.out]; omega, _, by rw [HQ.out, drew_drewN]⟩
          case measure => simp [intOf]; omega
        · obtain rfl : k = H.length := by omega
          have HS := Lib.hid hs
          clear hs hEw
          go_wp2
          go_ret
          refine ⟨by rw [← HF.out.1]; first | rfl | (rw [List.take_length]; rfl), ?_⟩
          have e1 := HX.out.2.1
          rw [HW.out.2] at e1
          exact e1.trans (HS.out.below.mono e1.size)
end Py
end Go.Proofs.Ytnkkhbmbbkmfhaa
