/- The program: most. -/
import Derived.Test.YtnkkhbmbbkmfhaaJA18
import Derived.Test.YtnkkhbmbbkmfhaaK3
namespace Go.Proofs.Ytnkkhbmbbkmfhaa
open Go.Shelf Go.RowKit Go.Sort Go.Lib
namespace Py

theorem stepb_info : (Try.prog.info? 95).map (fun i => (i.zero.isSome, i.zero.map (fun z => z.cells.size), i.size, i.bytes)) = some (true, some 3, 3, 24) := by kernel_rfl
theorem EAt.st3 {w : World} {A : Option Addr} {c : Nat} {S : List St} (h : EAt est 3 w A c S) {j : Nat} {s : St} (hj : S[j]? = some s) : ∃ g o, A = some ⟨g, o, none⟩ ∧ g < w.heap.size ∧ w.cell? ⟨g, o + j * 3, none⟩ = some (.int .i64 s.a) ∧ w.cell? ⟨g, o + j * 3 + 1, none⟩ = some (.bool s.b) ∧ w.cell? ⟨g, o + j * 3 + 2, none⟩ = some (.int .i64 s.p) := by
  obtain ⟨g, o, hA, hg, d⟩ := h.2.2 j _ hj
  exact ⟨g, o, hA, hg, d 0 _ (by omega) rfl, d 1 _ (by omega) rfl, d 2 _ (by omega) rfl⟩
theorem twoS (w : World) (T : TypeId) (s1 s2 : St) : EAt est 3 (w.alloc (.cells #[.int .i64 s1.a, .bool s1.b, .int .i64 s1.p, .int .i64 s2.a, .bool s2.b, .int .i64 s2.p] T)) (some ⟨w.heap.size, 0, none⟩) 2 [s1, s2] := by
  have hg : (w.alloc (.cells #[.int .i64 s1.a, .bool s1.b, .int .i64 s1.p, .int .i64 s2.a, .bool s2.b, .int .i64 s2.p] T)).heap[w.heap.size]? = some (.cells #[.int .i64 s1.a, .bool s1.b, .int .i64 s1.p, .int .i64 s2.a, .bool s2.b, .int .i64 s2.p] T (0, 0)) := by rw [heapAlloc, if_pos rfl]
  refine ⟨Nat.le_refl _, by unfold maxLen; omega, fun j x hx => ⟨_, 0, rfl, lt_of_heap hg, fun i v hi hv => ?_⟩⟩
  rw [cell_of_row _ _ _ _ _ _ hg]
  match j, i, hi, hx, hv with
  | 0, 0, _, hx, hv => cases hx; cases hv; rfl
  | 0, 1, _, hx, hv => cases hx; cases hv; rfl
  | 0, 2, _, hx, hv => cases hx; cases hv; rfl
  | 1, 0, _, hx, hv => cases hx; cases hv; rfl
  | 1, 1, _, hx, hv => cases hx; cases hv; rfl
  | 1, 2, _, hx, hv => cases hx; cases hv; rfl
  | n + 2, _, _, hx, _ => simp at hx
theorem wpList_arun {ts : TypeId} {w : World} {ops : Array Oper} {rest : List Oper} {o : Oper} {a : Act} {Q : Exit → Act → World → Prop} (hgd : o.guard = none) (s x : Operand) (ho : o.op = .call { callee := .builtin .append, args := #[s, x], argTypes := #[ts, ts] })
    (v u r : Value) (hs : a.eval s = v) (hx : a.eval x = u) (w' : World) (hrun : (Builtin.append_ #[ts, ts] o.type #[v, u]).run Try.prog w = .ok r w') (h : wpList Try.prog ops Q rest (a.put o.dst r) w') : wpList Try.prog ops Q (o :: rest) a w :=
  wpList_plain hgd fun _ hK => wp_append_run s x ho v u r hs hx w' hrun (hK _ _ h)
attribute [local irreducible] wpQuiet
def lenQ : Value → Nat
  | .slice _ n _ => n
  | _ => 0
set_option maxRecDepth 100000 in
set_option maxHeartbeats 4000000 in
theorem most_ok (t : Nat) (A : Option Addr) (c : Nat) (L : List PU) (h w : Int) (lim : Nat) (hL : OkL L) (hc : OkC h w) (_hlim : lim ≤ 1024) (W : World) (ht : TrAt W t A c L) :
    Calls Try.prog 39 #[.pointer (some ⟨t, 0, none⟩), cbx h w, .int .i64 (lim : Int)] W fun e w' => e = .returned (.int .i64 (mostV L (stepsV L) h w lim)) ∧ Below W.heap.size W w' := by
  have hlen := hL.len
  have h0 := hc.h0; have h1 := hc.h1; have w0 := hc.w0; have w1 := hc.w1
  have hb := below_box W (.cells #[.int .i64 h, .int .i64 w] 24)
  have hnb : (W.alloc (.cells #[.int .i64 h, .int .i64 w] 24)).heap[W.heap.size]? = some (.cells #[.int .i64 h, .int .i64 w] 24 (0, 0)) := by rw [heapAlloc, if_pos rfl]
  have ht2 := ht.below hb
  have HC := Lib.hid (And.intro hL hc)
  have HX := Lib.hid (And.intro hb (And.intro hnb ht2))
  clear hL hc hb hnb ht ht2
  go_enter Try.func39, Try.ntmps39
  go_upto_region 2 with (fail)
  generalize W.alloc (.cells #[.int .i64 h, .int .i64 w] 24) = V at *
  obtain ⟨b, hbe⟩ : ∃ b, b = W.heap.size := ⟨_, rfl⟩
  rw [← hbe] at HX ⊢
  have HBE := Lib.hid hbe
  clear hbe
  obtain ⟨B0, d0, mb, n0, D0, e1, _⟩ := HX.out.2.2.ex
  have t0 : V.cell? ⟨t, 0, none⟩ = some (.slice A L.length c) := by rw [cell_of_row _ _ _ _ _ _ e1]; rfl
  clear e1
  have hUL := HX.out.2.2.uses.1
  have hUM := HX.out.2.2.uses.2.1
  unfold maxLen at hUM
  go_upto_region 3 with (fail)
  have H0 := Lib.hid (owne_nil (enc := est) (k := 3) V V.heap.size 95)
  go_loopw [7, 22] (fun v i wr => ∃ (k : Nat) (B : Option Addr) (d : Nat) (M : List St), k ≤ L.length ∧ i = .int .i64 k ∧ v = .slice B M.length d ∧ M = rawS (L.take k) ∧ M.length ≤ 400 ∧ OwnE est 3 wr V.heap.size 95 B d M ∧ Below V.heap.size V wr) (fun _ i _ => L.length - (intOf i).toNat)
  case atStart => exact ⟨0, none, 0, [], Nat.zero_le _, rfl, rfl, rfl, by simp, H0.out, Below.refl _ _⟩
  case round =>
    obtain ⟨k, B, d, M, hk, rfl, rfl, hM, hMl, hrow, hbw⟩ := hrel
    by_cases hlt : k < L.length
    · have hX := HX.out.2.2.uses.below hbw (Nat.le_refl _)
      obtain ⟨g, o, rfl, hg, c0, c1, c2⟩ := hX.at hlt
      have hsz := hbw.size
      have hnx : rawS (L.take (k + 1)) = M ++ [bgS (use L k), enS (use L k)] := by rw [take_next (use_get hlt), rawS_add, hM]
      have hnl : (rawS (L.take (k + 1))).length ≤ 400 := by rw [rawS_len, List.length_take]; omega
      generalize use L k = u at *
      obtain ⟨gp, gf, gt⟩ := u
      have HR := Lib.hid (And.intro hrow (And.intro hbw (And.intro hnx hnl)))
      dsimp only at c0 c1 c2
      clear hX hM hrow hbw hnx hnl
      go_upto_region 5 with (fail)
      obtain ⟨V1, hV1⟩ : ∃ V1, V1 = wr.alloc (.cells #[.int .i64 gp, .int .i64 gf, .int .i64 gt] 86) := ⟨_, rfl⟩
      rw [← hV1]
      obtain ⟨ub, hub⟩ : ∃ ub, ub = wr.heap.size := ⟨_, rfl⟩
      rw [← hub]
      have hbx : V1.heap[ub]? = some (.cells #[.int .i64 gp, .int .i64 gf, .int .i64 gt] 86 (0, 0)) := by rw [hV1, hub, heapAlloc, if_pos rfl]
      have hbV : Below wr.heap.size wr V1 := by rw [hV1]; exact below_box _ _
      obtain ⟨u0, u1, u2⟩ := three_at hbx
      have HV1 := Lib.hid (row_below HR.out.1 hbV)
      have HV2 := Lib.hid (HR.out.2.1.trans (hbV.mono hsz))
      have hsz1 : V.heap.size ≤ V1.heap.size := Nat.le_trans hsz hbV.size
      clear hV1 hub hbx hbV c0 c1 c2
      go_wp2_with (at_builtin; refine wpList_e EST Try.underlying93 stepb_info (by decide) ?_ (.tmp 26) (.tmp 37) ?_ V.heap.size B d M ?_ (HV1.out.alloc _) (some ⟨V1.heap.size, 0, none⟩) 2 [bgS ⟨gp, gf, gt⟩, enS ⟨gp, gf, gt⟩] ?_ (twoS _ _ (bgS ⟨gp, gf, gt⟩) (enS ⟨gp, gf, gt⟩)) (fun h => by cases h) ?_ ?_ ?_; (exact rfl); (exact rfl); (exact rfl); (exact rfl); (simp; omega); (simp; omega); intro A8 c8 w8 h8 b8 _ _; obtain ⟨U, hU⟩ : ∃ U, U = M ++ [bgS ⟨gp, gf, gt⟩, enS ⟨gp, gf, gt⟩] := ⟨_, rfl⟩; rw [← hU] at h8 ⊢; have H8 := Lib.hid (And.intro h8 (And.intro b8 hU)); clear h8 b8 hU)
      go_roundw
      case rel => exact ⟨k + 1, A8, c8, U, by omega, by go_num, rfl, by rw [HR.out.2.2.1]; exact H8.out.2.2, by have := HR.out.2.2.2; rw [HR.out.2.2.1] at this; rw [H8.out.2.2]; exact this, H8.out.1, (HV2.out.alloc hsz1 _).trans H8.out.2.1⟩
      case measure => simp [intOf]; omega
    · obtain rfl : k = L.length := by omega
      rw [List.take_length] at hM
      subst hM
      have hso := sortS_ok wr V.heap.size _ d B L HC.out.1 hrow
      have hrl := (stepsV_is HC.out.1).perm.length_eq
      have HS := Lib.hid (And.intro hso (And.intro hbw (And.intro (OwnE.at EST hrow).2 hrl)))
      clear hrow hbw hso
      go_upto_region 8 with (go_at_call 56; refine HS.out.1.mono ?_; rintro e v2 ⟨rfl, hrow2, hro⟩)
      rw [← hrl]
      have hSl : (stepsV L).length ≤ 400 := by rw [hrl]; exact hMl
      have hb2 : Below V.heap.size V v2 := HS.out.2.1.trans (hro.below HS.out.2.1.size fun g hg => (HS.out.2.2.1 g hg).1)
      have hea := (OwnE.at EST hrow2).1
      have hSc := hea.1
      have hSm := hea.2.1
      unfold maxLen at hSm
      have hIS := stepsV_is HC.out.1
      have hzr : v2.heap[b]? = some (.cells #[.int .i64 h, .int .i64 w] 24 (0, 0)) := by rw [hb2.block b (lt_of_heap HX.out.2.1)]; exact HX.out.2.1
      clear hrl hMl
      generalize hSeq : stepsV L = S at *
      have HSQ := Lib.hid hSeq
      clear hSeq
      have HI := Lib.hid (And.intro hIS (And.intro hea (And.intro hb2 hzr)))
      have H1 := Lib.hid (And.intro (MQ.start L S h w lim) (qat_nil v2 v2.heap.size))
      clear hIS hea hrow2 hro hb2 hzr HS
      go_upto_region 11 with (fail)
      go_loopw [10, 11, 44] (fun x v i wr => ∃ (k : Nat) (n : Int) (H : List Wt) (A2 : Option Addr) (c2 : Nat), k ≤ S.length ∧ i = .int .i64 k ∧ x = .int .i64 n ∧ v = .slice A2 H.length c2 ∧ MQ L S h w lim k (n, H) ∧ QAt wr v2.heap.size A2 c2 H ∧ Below v2.heap.size v2 wr) (fun _ _ i _ => S.length - (intOf i).toNat)
      case atStart => exact ⟨0, 0, [], none, 0, Nat.zero_le _, rfl, rfl, rfl, H1.out.1, H1.out.2, Below.refl _ _⟩
      case round =>
        obtain ⟨k, n, H, A2, c2, hk, rfl, rfl, rfl, hmq, hqa, hbw⟩ := hrel
        have hHl := hmq.len
        have hn0 := hmq.nn
        have hnb := hmq.bd
        dsimp only at hHl hn0 hnb
        have hqc := hqa.eat.1
        have hqm := hqa.eat.2.1
        unfold maxLen at hqm
        have hsz := hbw.size
        have hzr : wr.heap[b]? = some (.cells #[.int .i64 h, .int .i64 w] 24 (0, 0)) := by rw [hbw.block b (lt_of_heap HI.out.2.2.2)]; exact HI.out.2.2.2
        by_cases hlt : k < S.length
        · obtain ⟨s, hs⟩ : ∃ s, S[k]? = some s := ⟨_, List.getElem?_eq_getElem hlt⟩
          obtain ⟨g, o, rfl, hg, c0, c1, c3⟩ := (HI.out.2.1.below hbw (Nat.le_refl _)).st3 hs
          have hsb := step_bd HC.out.1 HI.out.1 (List.mem_of_getElem? hs)
          have hee := endV_le HC.out.1.ok
          obtain ⟨sa, sb, sp⟩ := s
          dsimp only at c0 c1 c3 hsb
          have hsa1 : sa ≤ 1000000000 := by omega
          obtain ⟨hsa0, _⟩ := hsb
          have HM := Lib.hid (And.intro hmq (And.intro hqa (And.intro hbw (And.intro hzr hs))))
          clear hmq hqa hbw hzr hs hee
          go_upto_region 13 with (fail)
          obtain ⟨V1, hV1⟩ : ∃ V1, V1 = wr.alloc (.cells #[.int .i64 sa, .bool sb, .int .i64 sp] 95) := ⟨_, rfl⟩
          rw [← hV1]
          obtain ⟨ub, hub⟩ : ∃ ub, ub = wr.heap.size := ⟨_, rfl⟩
          rw [← hub]
          have hbx : V1.heap[ub]? = some (.cells #[.int .i64 sa, .bool sb, .int .i64 sp] 95 (0, 0)) := by rw [hV1, hub, heapAlloc, if_pos rfl]
          have HU := Lib.hid hub
          have hbV : Below wr.heap.size wr V1 := by rw [hV1]; exact below_box _ _
          have hq1 := HM.out.2.1.below hbV
          have hzr1 : V1.heap[b]? = some (.cells #[.int .i64 h, .int .i64 w] 24 (0, 0)) := by rw [hbV.block b (lt_of_heap HM.out.2.2.2.1)]; exact HM.out.2.2.2.1
          have hb1 : Below v2.heap.size v2 V1 := HM.out.2.2.1.trans (hbV.mono hsz)
          obtain ⟨u0, u1, u2⟩ := three_at hbx
          have z0 : V1.cell? ⟨b, 0, none⟩ = some (.int .i64 h) := by rw [cell_of_row _ _ _ _ _ _ hzr1]; rfl
          have z1 : V1.cell? ⟨b, 1, none⟩ = some (.int .i64 w) := by rw [cell_of_row _ _ _ _ _ _ hzr1]; rfl
          have HV := Lib.hid (And.intro hq1 (And.intro hb1 (And.intro hbx hzr1)))
          have hsz1 : v2.heap.size ≤ V1.heap.size := Nat.le_trans hsz hbV.size
          clear hV1 hub hbx hbV hq1 hzr1 hb1 c0 c1 c3
          cases sb with
          | true =>
            have hn := HM.out.1.beg HC.out.1 HI.out.1 HC.out.2 HM.out.2.2.2.2 rfl
            have hbg : bg h w (n, H) sa sp = (n + bgC h w sa (findW sp H), delW sp H) := rfl
            have hn2 := hn.bd
            have hpd := HM.out.1.pd
            have hat := HM.out.1.at_
            have hat0 := HM.out.1.at0
            dsimp only at hn hn2 hpd hat hat0
            rw [hbg] at hn hn2
            dsimp only at hn2
            have hix := idxW_ok A2 c2 H ub sp V1 HV.out.1.eat (by omega) u2
            have HIX := Lib.hid (And.intro hix (And.intro hn (And.intro hpd (And.intro hat hat0))))
            clear hix hn hpd hat hat0 hbg
            rcases fdI_spec sp H 0 with ⟨f1, f2⟩ | ⟨d1, x, f1, f2, f3, f4⟩
            · rw [f2] at HIX
              rw [f1, del_none f1] at HIX hn2
              have hw' : bgC h w sa none = w := rfl
              rw [hw'] at HIX hn2
              clear f1 f2 hw'
              go_upto_region 15 with (go_at_call 60; refine HIX.out.1.mono ?_; rintro e w3 ⟨rfl, hb3⟩)
              have y1 := cell_keep2 hb3 z1
              have H3 := Lib.hid (And.intro (HV.out.1.below hb3) (HV.out.2.1.trans (hb3.mono hsz1)))
              clear hb3 u0 u1 u2 z0 z1
              go_wp2_with (fail)
              go_roundw
              case rel => exact ⟨k + 1, n + w, H, A2, c2, by omega, by go_num, rfl, rfl, HIX.out.2.1, H3.out.1, H3.out.2⟩
              case measure => simp [intOf]; omega
            · rw [Nat.zero_add] at f4
              rw [f4] at HIX
              rw [f3] at HIX hn2
              have hw' : bgC h w sa (some x) = (sa - x.s) * h := rfl
              rw [hw'] at HIX hn2
              have hdl := (List.getElem?_eq_some_iff.1 f1).1
              have her := del_at HIX.out.2.2.1 f1 f2
              have hel : (H.eraseIdx d1).length = H.length - 1 := by rw [List.length_eraseIdx, if_pos hdl]
              have hxm := List.mem_of_getElem? f1
              have hx1 := HIX.out.2.2.2.2 x hxm
              have hx2 := HIX.out.2.2.2.1 x hxm ⟨sa, true, sp⟩ ((drop_mem HM.out.2.2.2.2).2 (.inl rfl))
              have hhb := hold_bd HC.out.2 hx1.1 hx2 hsa1
              have hwx : wt H d1 = x := by have := wt_get hdl; rw [f1] at this; injection this with this; exact this.symm
              obtain ⟨xs, xp⟩ := x
              dsimp only at hx1 hx2 hhb HIX hn2
              have hxs1 : xs ≤ 1000000000 := by omega
              obtain ⟨hxs0, _⟩ := hx1
              rw [← her] at HIX
              obtain ⟨y, hy⟩ : ∃ y, y = (sa - xs) * h := ⟨_, rfl⟩
              rw [← hy] at HIX hhb
              have qy : (sa - xs) * h = y := hy.symm
              have HE := Lib.hid (And.intro hel hwx)
              obtain ⟨hy0, hy1⟩ := hhb
              clear f1 f2 f3 f4 hw' her hel hxm hx2 hwx hy hn2
              go_upto_region 15 with (go_at_call 60; refine HIX.out.1.mono ?_; rintro e w3 ⟨rfl, hb3⟩)
              have y0 := cell_keep2 hb3 z0
              have v0 := cell_keep2 hb3 u0
              have hq3 := HV.out.1.below hb3
              obtain ⟨g2, o2, rfl, hg2, a0, a1⟩ := hq3.eat.wt2 hdl
              rw [HE.out.2] at a0 a1
              dsimp only at a0 a1
              have H3 := Lib.hid (And.intro hq3 (HV.out.2.1.trans (hb3.mono hsz1)))
              clear hb3 hq3 u0 u1 u2 z0 z1 a1
              go_upto_region 17 with (fail)
              go_quiet (fail)
              have hde := delete_ok (w3.drewN nq) v2.heap.size c2 (some ⟨g2, o2, none⟩) H d1 (H3.out.1.drew nq) hdl (by omega)
              rw [show ((d1 + 1 : Nat) : Int) = (d1 : Int) + 1 by omega] at hde
              have HD := Lib.hid hde
              clear hde y0 v0 a0
              go_wp2_with (go_at_call 62; refine HD.out.mono ?_; rintro e w4 ⟨rfl, hq4, hb4, _⟩; have H4 := Lib.hid (And.intro hq4 hb4); clear hq4 hb4)
              go_roundw
              case rel => exact ⟨k + 1, n + y, H.eraseIdx d1, some ⟨g2, o2, none⟩, c2, by omega, by go_num, rfl, by rw [HE.out.1], HIX.out.2.1, H4.out.1, (below_drewN H3.out.2 nq).trans H4.out.2⟩
              case measure => simp [intOf]; omega
          | false =>
            have hpi := HM.out.1.push HC.out.1 HI.out.1 HM.out.2.2.2.2 rfl
            have hen := fun (st' : PS) => HM.out.1.en HC.out.1 HI.out.1 HM.out.2.2.2.2 rfl (st' := st')
            dsimp only at hpi hen
            generalize hB : ((k + 1 : Nat) : Int) * 1001000000000 = BB at *
            have hBb : BB ≤ 401401000000000 := by omega
            have hlst : ∀ s2, S[k + 1]? = some s2 → isLast sa (S.drop (k + 1)) = decide (sa < s2.a) := fun s2 e => by rw [drop_next e]; rfl
            have hlst2 : S.length ≤ k + 1 → isLast sa (S.drop (k + 1)) = true := fun e => by rw [List.drop_eq_nil_of_le e]; rfl
            generalize isLast sa (S.drop (k + 1)) = lst at *
            generalize stepP h w lim (n, H) ⟨sa, false, sp⟩ lst = tgt at *
            obtain ⟨A3, c4, w3, hrun, hq3, hb3, hfar⟩ := run_push (HV.out.1.below (below_box V1 (.cells #[.int .i64 sa, .int .i64 sp] 103))) (by simp; omega) (by omega) ⟨V1.heap.size, 0, none⟩ 1 ⟨sa, sp⟩ (oneWt V1 _ ⟨sa, sp⟩)
            have hub3 : w3.heap[ub]? = some (.cells #[.int .i64 sa, .bool false, .int .i64 sp] 95 (0, 0)) := by
              have hul := lt_of_heap HV.out.2.2.1
              rw [hfar ub (by simp; omega) (fun e => by
                have := (HM.out.2.1.blk ub e).2
                rw [HU.out] at this; omega), alloc_old _ _ _ hul]
              exact HV.out.2.2.1
            have hbw3 : Below v2.heap.size v2 w3 := (HV.out.2.1.alloc hsz1 _).trans hb3
            obtain ⟨H3, hH3⟩ : ∃ H3, H3 = H ++ [(⟨sa, sp⟩ : Wt)] := ⟨_, rfl⟩
            have hl3 : H.length + 1 = H3.length := by rw [hH3]; simp
            rw [hl3] at hrun
            rw [← hH3] at hq3 hpi
            have hH3l : H3.length ≤ 500 := by omega
            have HP := Lib.hid (And.intro hpi (And.intro hen (And.intro hq3 (And.intro hbw3 (And.intro hub3 (And.intro hlst (And.intro hlst2 hl3)))))))
            have HRUN := Lib.hid hrun
            clear hpi hen hB hlst hlst2 hrun hq3 hb3 hfar hub3 hbw3 hH3 hl3
            go_wp2_with (at_builtin; refine wpList_arun rfl (.tmp 78) (.tmp 84) rfl _ _ _ ?_ ?_ w3 (HRUN.out _) ?_; (exact rfl); (exact rfl); clear u0 u1 u2 z0 z1)
            go_loopw [10, 11] (fun x v wr => ∃ (m : Int) (Q : List Wt) (A' : Option Addr) (c' q : Nat), x = .int .i64 m ∧ v = .slice A' Q.length c' ∧ PopI lim h sa lst BB tgt (m, Q) ∧ QAt w3 v2.heap.size A' c' Q ∧ Q.length ≤ 500 ∧ wr = w3.drewN q) (fun _ v _ => lenQ v)
            case atStart => exact ⟨n, H3, A3, c4, 0, rfl, rfl, HP.out.1, HP.out.2.2.1, hH3l, rfl⟩
            case round =>
              obtain ⟨m, Q, A', c', q, rfl, rfl, hp, hq, hQl, hwq⟩ := hrel
              have hqc := hq.eat.1
              have hqm := hq.eat.2.1
              unfold maxLen at hqm
              have hm0 := hp.nn
              have hmb := hp.bd
              dsimp only at hm0 hmb
              have hzq : wr.heap[b]? = some (.cells #[.int .i64 h, .int .i64 w] 24 (0, 0)) := by
                rw [hwq]
                show w3.heap[b]? = _
                rw [HP.out.2.2.2.1.block b (lt_of_heap HI.out.2.2.2)]; exact HI.out.2.2.2
              have z0 : wr.cell? ⟨b, 0, none⟩ = some (.int .i64 h) := by rw [cell_of_row _ _ _ _ _ _ hzq]; rfl
              have hub3 : wr.heap[ub]? = some (.cells #[.int .i64 sa, .bool false, .int .i64 sp] 95 (0, 0)) := by rw [hwq]; exact HP.out.2.2.2.2.1
              obtain ⟨v0, _, _⟩ := three_at hub3
              have HK := Lib.hid (And.intro hp (And.intro hq hwq))
              have hexit : (lst = true → Q.length ≤ lim) → MQ L S h w lim (k + 1) (m, Q) := fun e => by
                have e1 := HK.out.1.done e
                rw [e1]
                rw [e1] at HK
                exact HP.out.2.1 tgt rfl HK.out.1.nn HK.out.1.bd
              have HE := Lib.hid hexit
              have hwd : Below v2.heap.size v2 wr := by rw [hwq]; exact below_drewN HP.out.2.2.2.1 q
              have HW := Lib.hid hwd
              clear hp hq hwq hzq hub3 hexit hwd
              by_cases hll : lim < Q.length
              · obtain ⟨x, Q', rfl⟩ : ∃ x Q', Q = x :: Q' := by
                  cases Q with
                  | nil => simp at hll
                  | cons x Q' => exact ⟨x, Q', rfl⟩
                obtain ⟨Ql, hQle⟩ : ∃ Ql, Ql = (x :: Q').length := ⟨_, rfl⟩
                have hQl2 : Q'.length = Ql - 1 := by rw [hQle]; rfl
                have hQ1 : 1 ≤ Ql := by rw [hQle]; simp
                have hq9 : QAt wr v2.heap.size A' c' (x :: Q') := by rw [HK.out.2.2]; exact HK.out.2.1.drew q
                obtain ⟨g2, o2, rfl, hg2, a0, a1⟩ := hq9.eat.wt2 (j := 0) (by rw [← hQle]; omega)
                have hwx : wt (x :: Q') 0 = x := rfl
                rw [hwx, Nat.zero_mul, Nat.add_zero] at a0
                have hpq := hq9.pop
                have hsr := (HI.out.2.1.below HW.out (Nat.le_refl _))
                have HQL := Lib.hid (And.intro hQl2 (And.intro hpq (And.intro hsr hQle)))
                rw [← hQle] at hll hQl hqc ⊢
                clear hQle hQl2 hq9 hwx a1 hpq hsr
                have go : lst = true → PopI lim h sa true BB tgt (m + (sa - x.s) * h, Q') ∧ 0 ≤ (sa - x.s) * h ∧ (sa - x.s) * h ≤ 1000000000000 := fun e => by
                  have h9 := HK.out.1
                  rw [e] at h9
                  exact h9.pop HC.out.2 hsa1 (by rw [← HQL.out.2.2.2]; exact hll)
                have hxb := HK.out.1.at_ x (List.mem_cons_self ..)
                have HGO := Lib.hid go
                clear go
                by_cases hend : k + 1 = S.length
                · have hl1 := HP.out.2.2.2.2.2.2.1 (by omega)
                  obtain ⟨go1, go2, go3⟩ := HGO.out hl1
                  rw [← hl1] at go1
                  obtain ⟨xs, xp⟩ := x
                  dsimp only at go1 go2 go3 hxb a0
                  have hxs1 : xs ≤ 1000000000 := by omega
                  obtain ⟨hxs0, _⟩ := hxb
                  obtain ⟨y, hy⟩ : ∃ y, y = (sa - xs) * h := ⟨_, rfl⟩
                  rw [← hy] at go1 go2 go3
                  have qy : (sa - xs) * h = y := hy.symm
                  have HG := Lib.hid (And.intro go1 hl1)
                  clear go1 hl1 hy
                  have hends : ((k : Int) + 1 == (S.length : Int)) = true := by simp; omega
                  have q1 : 1 ≤ c' := by omega
                  have q2 : (1 : Int) ≤ (Ql : Int) := by omega
                  have q4 : (0 : Int) < (Ql : Int) := by omega
                  have q3 : (1 : Int) ≤ (c' : Int) := by omega
                  go_upto_region 20 with (fail)
                  go_quiet (fail)
                  go_upto_region 21 with (fail)
                  go_quiet (fail)
                  go_wp2_with (fail)
                  have hq8 : QAt w3 v2.heap.size (if c' = 1 then some ⟨g2, o2, none⟩ else some ⟨g2, o2 + 2, none⟩) (c' - 1) Q' := by
                    split
                    · next e => have := HK.out.2.1.pop.2 e; subst e; exact this
                    · exact HK.out.2.1.pop.1
                  exact ⟨⟨m + y, Q', _, _, _, rfl, by rw [HQL.out.1], HG.out.1, hq8, by rw [HQL.out.1]; omega, by rw [HK.out.2.2, drew_drewN]⟩, by show Ql - 1 < Ql; omega⟩
                · obtain ⟨s2, hs2⟩ : ∃ s2, S[k + 1]? = some s2 := ⟨_, List.getElem?_eq_getElem (show k + 1 < S.length by omega)⟩
                  have hl1 := HP.out.2.2.2.2.2.1 s2 hs2
                  obtain ⟨g5, o5, hg5, _, d0, _, _⟩ := HQL.out.2.2.1.st3 hs2
                  injection hg5 with hg5; injection hg5 with e5 e6 _
                  subst e5; subst e6
                  obtain ⟨sa2, sb2, sp2⟩ := s2
                  dsimp only at d0 hl1
                  have hend2 : ((k : Int) + 1 == (S.length : Int)) = false := by simp; omega
                  have q5 : (k : Int) + 1 < (S.length : Int) := by omega
                  have q6 : (0 : Int) ≤ (k : Int) + 1 := by omega
                  have q7 : ((k : Int) + 1).toNat = k + 1 := by omega
                  clear hs2 hend
                  by_cases hn : sa < sa2
                  · rw [decide_eq_true hn] at hl1
                    have hn' : sa2 > sa := hn
                    obtain ⟨go1, go2, go3⟩ := HGO.out hl1
                    rw [← hl1] at go1
                    obtain ⟨xs, xp⟩ := x
                    dsimp only at go1 go2 go3 hxb a0
                    have hxs1 : xs ≤ 1000000000 := by omega
                    obtain ⟨hxs0, _⟩ := hxb
                    obtain ⟨y, hy⟩ : ∃ y, y = (sa - xs) * h := ⟨_, rfl⟩
                    rw [← hy] at go1 go2 go3
                    have qy : (sa - xs) * h = y := hy.symm
                    have HG := Lib.hid (And.intro go1 hl1)
                    clear go1 hl1 hy
                    have q1 : 1 ≤ c' := by omega
                    have q2 : (1 : Int) ≤ (Ql : Int) := by omega
                    have q4 : (0 : Int) < (Ql : Int) := by omega
                    have q3 : (1 : Int) ≤ (c' : Int) := by omega
                    go_upto_region 20 with (fail)
                    go_quiet (fail)
                    go_upto_region 21 with (fail)
                    go_quiet (fail)
                    go_wp2_with (fail)
                    have hq8 : QAt w3 v2.heap.size (if c' = 1 then some ⟨g2, o2, none⟩ else some ⟨g2, o2 + 2, none⟩) (c' - 1) Q' := by
                      split
                      · next e => have := HK.out.2.1.pop.2 e; subst e; exact this
                      · exact HK.out.2.1.pop.1
                    exact ⟨⟨m + y, Q', _, _, _, rfl, by rw [HQL.out.1], HG.out.1, hq8, by rw [HQL.out.1]; omega, by rw [HK.out.2.2, drew_drewN]⟩, by show Ql - 1 < Ql; omega⟩
                  · rw [decide_eq_false hn] at hl1
                    have hn' : ¬ sa2 > sa := hn
                    have hr := HE.out fun e => by rw [hl1] at e; cases e
                    have HR := Lib.hid hr
                    clear hr hl1
                    go_upto_region 20 with (fail)
                    go_quiet (fail)
                    go_wp2_with (fail)
                    go_roundw
                    case rel => exact ⟨k + 1, m, x :: Q', _, c', by omega, by go_num, rfl, by rw [HQL.out.2.2.2], HR.out, by rw [HK.out.2.2]; exact (HK.out.2.1.drew q).drew nq, below_drewN HW.out _⟩
                    case measure => simp [intOf]; omega
              · have hr := HE.out fun _ => by omega
                have HR := Lib.hid hr
                clear hr
                go_upto_region 20 with (fail)
                go_quiet (fail)
                go_wp2_with (fail)
                go_roundw
                case rel => exact ⟨k + 1, m, Q, A', c', by omega, by go_num, rfl, rfl, HR.out, by rw [HK.out.2.2]; exact (HK.out.2.1.drew q).drew nq, below_drewN HW.out _⟩
                case measure => simp [intOf]; omega
        · obtain rfl : k = S.length := by omega
          have hfin := hmq.fin
          have hat := hmq.at0
          have hee := endV_le HC.out.1.ok
          dsimp only at hfin hat
          obtain ⟨B9, d9, mb9, n9, D9, e9, _⟩ := HX.out.2.2.ex
          have hbV : Below V.heap.size V wr := HI.out.2.2.1.trans (hbw.mono HI.out.2.2.1.size)
          have t3 : wr.cell? ⟨t, 3, none⟩ = some (.int .i64 (endV L)) := by
            rw [cell_of_row _ _ _ _ _ _ (show wr.heap[t]? = _ by rw [hbV.block t (lt_of_heap e9)]; exact e9)]; rfl
          have z0 : wr.cell? ⟨b, 0, none⟩ = some (.int .i64 h) := by rw [cell_of_row _ _ _ _ _ _ hzr]; rfl
          have hxb : ∀ x, x ∈ H → 0 ≤ (endV L - x.s) * h ∧ (endV L - x.s) * h ≤ 1000000000000 ∧ 0 ≤ x.s ∧ x.s ≤ 1000000000 := fun x hx => by
            have h1 := hat x hx
            have := hold_bd HC.out.2 h1.1 h1.2 hee
            exact ⟨this.1, this.2, h1.1, by omega⟩
          have hen0 : 0 ≤ endV L := endV_0 L
          generalize endV L = en at *
          have hrs : ∀ k, k < H.length → restS h en (H.take (k + 1)) = restS h en (H.take k) + (en - (wt H k).s) * h := fun k hk => by
            unfold restS
            rw [take_next (wt_get hk), sum_add1]
          have hWb : Below b W wr := HX.out.1.trans (hbV.mono (by rw [HBE.out]; exact HX.out.1.size))
          have hHm : H.length ≤ 400 := by omega
          obtain ⟨W1, hW1⟩ : ∃ W1, W1 = wr := ⟨_, rfl⟩
          subst hW1
          have HF := Lib.hid (And.intro hfin (And.intro hxb (And.intro hrs (And.intro hWb (And.intro hqa.eat (And.intro t3 z0))))))
          clear hmq hqa hbw hzr hfin hat e9 hbV t3 z0 hxb hrs hWb hlt
          go_upto_region 25 with (fail)
          go_loopw [10, 125] (fun x i wr => ∃ j : Nat, j ≤ H.length ∧ i = .int .i64 j ∧ x = .int .i64 (n + restS h en (H.take j)) ∧ 0 ≤ restS h en (H.take j) ∧ restS h en (H.take j) ≤ (j : Int) * 1000000000000 ∧ Below W1.heap.size W1 wr) (fun _ i _ => H.length - (intOf i).toNat)
          case atStart => exact ⟨0, Nat.zero_le _, rfl, by rw [List.take_zero]; show _ = Value.int .i64 (n + 0); rw [Int.add_zero], by rw [List.take_zero]; exact Int.le_refl _, by rw [List.take_zero]; exact Int.le_refl _, Below.refl _ _⟩
          case round =>
            obtain ⟨j, hj, rfl, rfl, hr0, hr1, hbx⟩ := hrel
            by_cases hjl : j < H.length
            · obtain ⟨g, o, rfl, hg, a0, a1⟩ := (HF.out.2.2.2.2.1.below hbx (Nat.le_refl _)).wt2 hjl
              have y3 := cell_keep2 hbx HF.out.2.2.2.2.2.1
              have y0 := cell_keep2 hbx HF.out.2.2.2.2.2.2
              have hnx := HF.out.2.2.1 j hjl
              obtain ⟨x0, x1, s0, s1⟩ := HF.out.2.1 _ (List.mem_of_getElem? (wt_get hjl))
              generalize wt H j = x at *
              obtain ⟨xs, xp⟩ := x
              dsimp only at a0 a1 hnx x0 x1 s0 s1
              generalize restS h en (H.take j) = r at *
              obtain ⟨y, hy⟩ : ∃ y, y = (en - xs) * h := ⟨_, rfl⟩
              rw [← hy] at hnx x0 x1
              have qy : (en - xs) * h = y := hy.symm
              have HN := Lib.hid (And.intro hnx hbx)
              clear hy hnx hbx
              go_upto_region 27 with (fail)
              obtain ⟨V5, hV5⟩ : ∃ V5, V5 = wr.alloc (.cells #[.int .i64 xs, .int .i64 xp] 103) := ⟨_, rfl⟩
              rw [← hV5]
              obtain ⟨ub, hub⟩ : ∃ ub, ub = wr.heap.size := ⟨_, rfl⟩
              rw [← hub]
              have hbx : V5.heap[ub]? = some (.cells #[.int .i64 xs, .int .i64 xp] 103 (0, 0)) := by rw [hV5, hub, heapAlloc, if_pos rfl]
              have hb5 : Below wr.heap.size wr V5 := by rw [hV5]; exact below_box _ _
              have u0 : V5.cell? ⟨ub, 0, none⟩ = some (.int .i64 xs) := by rw [cell_of_row _ _ _ _ _ _ hbx]; rfl
              replace y0 := cell_keep2 hb5 y0
              replace y3 := cell_keep2 hb5 y3
              have H5 := Lib.hid (HN.out.2.trans (hb5.mono HN.out.2.size))
              clear hV5 hub hbx hb5 a0 a1
              go_quiet (fail)
              go_wp2_with (fail)
              go_roundw
              case rel => exact ⟨j + 1, by omega, by go_num, by rw [HN.out.1]; congr 1; omega, by rw [HN.out.1]; omega, by rw [HN.out.1]; omega, below_drewN H5.out _⟩
              case measure => simp [intOf]; omega
            · obtain rfl : j = H.length := by omega
              have HB := Lib.hid hbx
              clear hbx
              go_wp2
              go_ret
              refine ⟨by rw [HSQ.out, ← HF.out.1]; first | rfl | (rw [List.take_length]; rfl), by rw [← HBE.out]; exact HF.out.2.2.2.1.trans (HB.out.mono (by rw [HBE.out]; exact HF.out.2.2.2.1.size))⟩
end Py
end Go.Proofs.Ytnkkhbmbbkmfhaa
