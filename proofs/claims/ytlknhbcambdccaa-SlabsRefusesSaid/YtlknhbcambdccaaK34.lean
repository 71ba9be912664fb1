/- Free of the reference: the walk. agrees of the law: both have the same state. pick of the law. The cache and the reference, side by side, after a call of both. -/
import Derived.Test.YtlknhbcambdccaaK33
import Derived.Test.YtlknhbcambdccaaK32
import Derived.Deep.RegionHeld3
import Derived.Test.YtlknhbcambdccaaK31
import Derived.Test.YtlknhbcambdccaaK26
import Derived.Test.YtlknhbcambdccaaK24
namespace Go.Proofs.Ytlknhbcambdccaa
open Go.RowKit
namespace Sl
open Bu

/-- What the reference's Free leaves. -/
def FreeQ (w : World) (own : Own?) (r B ob s o kp N : Nat) (A : Option Addr) (L : List Blk) (f : Nat × List Slb × List Blk) (e : Ending) (W : World) : Prop :=
  e = .returned (.int .i64 (f.1 : Int)) ∧ RefP w own r B ob s o kp N A L f.2.1 f.2.2 W

set_option maxRecDepth 100000 in
set_option maxHeartbeats 8000000 in
theorem freeR_walk (w : World) (own : Own?) (r B ob : Nat) (s o kp N : Nat) (L : List Blk) (q : List RS) (A : Option Addr) (cG : Nat) (hq0 : RefS w own r B ob s o kp N q A cG L) (l : List Slb) (hq : q.map (·.1) = l) (H : CaOk ⟨s, o, kp, l⟩ N L) (at_ : Int) :
    Calls Try.prog 56 #[.pointer (some ⟨r, 0, none⟩), .int .i64 at_] w fun e w' => FreeQ w own r B ob s o kp N A L (freeC ⟨s, o, kp, l⟩ L at_) e w' := by
  have Hq : CaOk (refC s o kp q) N L := by unfold refC; rw [hq]; exact H
  have hF := findR_ok w own r ⟨B, ob, none⟩ s o kp N L q hq0.ref Hq at_
  have HF := Lib.hid hF
  have HX := Lib.hid (And.intro hq0 (And.intro hq (And.intro H Hq)))
  clear hF hq0 hq H Hq
  go_enter Try.func56, Try.ntmps56
  go_wp2_with (go_at_call 82; fail)
  refine HF.out.mono ?_
  rintro e W1 ⟨hr, m, hW1⟩
  have hbm : Below w.heap.size w W1 := by rw [hW1]; exact below_drew w m
  obtain ⟨hS1, hN1⟩ := HX.out.1.same hbm
  rcases hr with ⟨j, i, x, hx, hi, had, rfl⟩ | ⟨hno, rfl⟩
  · obtain ⟨v, hv⟩ : ∃ v, x.1.us[i]? = some v := ⟨_, List.getElem?_eq_getElem hi⟩
    obtain ⟨g, oo, cap, hc, hl1, hl2, hg, d0, d1⟩ := ref_row hS1.ref hx
    obtain ⟨_, _, _, _, c4, _⟩ := five_cells hc
    obtain ⟨hu1, hu2⟩ := hS1.ref.used j x hx
    have d3 : W1.cell? ⟨x.2.1, i, none⟩ = some (.bool v) := row_cell hu2 (by rw [bcells_get, hv]; rfl)
    have df3 : W1.frozen? ⟨x.2.1, i, none⟩ = false := row_frozen hu2 i
    have hjl := (List.getElem?_eq_some_iff.1 hx).1
    unfold maxLen at hl2
    have hbo := ok_bounds HX.out.2.2.2 (List.mem_of_getElem? (refC_get hx))
    have hxl : (⟨s, o, kp, l⟩ : Ca).sl[j]? = some x.1 := by show l[j]? = _; rw [← HX.out.2.1, List.getElem?_map, hx]; rfl
    have hfree := free_hit HX.out.2.2.1 hxl hi
    rw [show addrS (⟨s, o, kp, l⟩ : Ca).size x.1 i = addrS s x.1 i from rfl, had] at hfree
    obtain ⟨n, hn⟩ : ∃ n, n = q.length := ⟨_, rfl⟩
    obtain ⟨p, hp⟩ : ∃ p, p = x.1.us.length := ⟨_, rfl⟩
    obtain ⟨U, hU⟩ : ∃ U, U = x.2.1 := ⟨_, rfl⟩
    rw [← hn] at c4 hl1 hjl
    rw [← hp] at d1 hi hbo
    rw [← hU] at d1 d3 df3
    have e0 : (0 : Int) ≤ (j : Int) := by omega
    have e1 : (j : Int) < (n : Int) := by omega
    have e2 : (0 : Int) ≤ (i : Int) := by omega
    have e3 : (i : Int) < (p : Int) := by omega
    have hpl := hbo.2.1
    have H1 := Lib.hid (And.intro hS1 (And.intro hN1 (And.intro hx (And.intro hv (And.intro hxl (And.intro hfree (And.intro hn (And.intro hp hU))))))))
    clear hS1 hN1 hx hv hxl hfree hn hp hU hW1 hbm hc hu1 hu2 hbo had d0
    cases v with
    | false =>
      go_wp2_with (fail)
      go_ret
      obtain ⟨hS1, hN1, _, hv, _, hfree, _⟩ := H1.out
      rw [hfree, if_pos (by rw [hv]; simp)]
      exact ⟨rfl, own, q, A, cG, HX.out.2.1, hS1, hN1⟩
    | true =>
      obtain ⟨W2, hW2⟩ : ∃ W2, W2 = W1.setCell ⟨U, i, none⟩ (.bool false) := ⟨_, rfl⟩
      have hd : q.Pairwise fun a b => a.1.pg < b.1.pg := by
        have := HX.out.2.2.1.asc
        rw [show (⟨s, o, kp, l⟩ : Ca).sl = l from rfl, ← HX.out.2.1, List.pairwise_map] at this
        exact this
      obtain ⟨hS2, hN2⟩ := ref_set H1.out.1 hd H1.out.2.2.1 (i := i) (by have := H1.out.2.2.2.2.2.2.2.1; omega) false
      rw [← H1.out.2.2.2.2.2.2.2.2, ← hW2] at hS2 hN2
      have hN2 := H1.out.2.1.trans hN2
      obtain ⟨q1, hq1⟩ : ∃ q1, q1 = q.set j (⟨x.1.pg, x.1.us.set i false⟩, x.2) := ⟨_, rfl⟩
      rw [← hq1] at hS2
      have hql1 : q1.map (·.1) = setS l j i false := by rw [hq1]; exact map_set HX.out.2.1 H1.out.2.2.1 false
      have hq1n : q1.length = n := by rw [hq1, List.length_set]; exact H1.out.2.2.2.2.2.2.1.symm
      obtain ⟨A1, cap1, hc1, hrow1, _⟩ := hS2.ref.cell
      rw [hq1n] at hc1
      obtain ⟨_, k1, k2, k3, k4, _⟩ := five_cells hc1
      have hrl := lt_of_heap hc1
      have hsb : SbAt 0 (World.drew W2) A1 cap1 (saveS (setS l j i false)) := by
        have := ref_sb (r := r) (Bp := ⟨B, ob, none⟩) (s := s) (o := o) (kp := kp) hrow1 hS2.ref.used
        rw [hql1] at this
        exact this.below (below_drew W2 1)
      have hE := emptyR_ok (World.drew W2) (s : Int) (o : Int) (kp : Int) A1 cap1 _ hsb
      rw [load_save, saveS_len, setS_len, show l.length = n by rw [← hq1n, ← setS_len l j i false, ← hql1, List.length_map]] at hE
      obtain ⟨E, hEE⟩ : ∃ E, E = emptyS (setS l j i false) := ⟨_, rfl⟩
      rw [← hEE] at hE
      have hn1 : n ≤ 1024 := by
        have h1 := ok_len HX.out.2.2.1
        have h2 : l.length = n := by rw [← hq1n, ← setS_len l j i false, ← hql1, List.length_map]
        have h3 : (⟨s, o, kp, l⟩ : Ca).sl.length = l.length := rfl
        omega
      have HE := Lib.hid hE
      have HW2 := Lib.hid hW2
      have HQ := Lib.hid (And.intro hq1 (And.intro hql1 (And.intro hq1n (And.intro hS2 (And.intro hN2 (And.intro hEE hd))))))
      clear hE hW2 hq1 hql1 hq1n hS2 hN2 hEE hd hc1 hrow1 hsb
      go_upto_region 7 with (fail)
      rw [← HW2.out]
      by_cases hgt : kp < E
      · have t1 : decide (kp < E) = true := decide_eq_true hgt
        have t2 : decide ((kp : Int) < (E : Int)) = true := decide_eq_true (by omega)
        go_region_held3 (fun w' => w'.cell? ⟨r, 1, none⟩ = some (.int .i64 (s : Int)) ∧ w'.cell? ⟨r, 2, none⟩ = some (.int .i64 (o : Int)) ∧ w'.cell? ⟨r, 3, none⟩ = some (.int .i64 (kp : Int)) ∧ w'.cell? ⟨r, 4, none⟩ = some (.slice A1 n cap1)) (first | exact ⟨k1, k2, k3, k4⟩ | exact ⟨y1, y2, y3, y4⟩) (first
          | (go_at_call 83; refine HE.out.mono ?_; rintro _ W5 ⟨rfl, hb5⟩; have y1 := cell_keep2 (w1 := World.drew W2) hb5 k1; have y2 := cell_keep2 (w1 := World.drew W2) hb5 k2; have y3 := cell_keep2 (w1 := World.drew W2) hb5 k3; have y4 := cell_keep2 (w1 := World.drew W2) hb5 k4; have H5 := Lib.hid hb5; clear hb5))
        go_wp2_with (fail)
        have hb5 : Below W2.heap.size W2 W5 := ⟨H5.out.os, H5.out.tape, H5.out.output, H5.out.size, H5.out.block⟩
        obtain ⟨hS5, hN5⟩ := HQ.out.2.2.2.1.same hb5
        have HS5 := Lib.hid (And.intro hS5 (HQ.out.2.2.2.2.1.trans hN5))
        clear hb5 hS5 hN5 k1 k2 k3 k4 y1 y2 y3 y4 c4 d1 d3 df3 t1 t2
        go_loopw [7, 8] (fun lv iv wr => ∃ t z : Nat, t ≤ n ∧ iv = .int .i64 (t : Int) ∧ lv = .int .i64 (z : Int) ∧ LastI (setS l j i false) t z ∧ RefS wr own r B ob s o kp N q1 A cG L ∧ RefN own own B ob A L w wr A cG L) (fun _ iv _ => n - (intOf iv).toNat)
        case atStart => exact ⟨0, 0, Nat.zero_le _, rfl, rfl, .inl ⟨fun j y hj => by omega, rfl⟩, HS5.out.1, HS5.out.2⟩
        case round =>
          obtain ⟨t, z, ht, rfl, rfl, hL, hS, hN⟩ := hrel
          have f0 : (0 : Int) ≤ (t : Int) := by omega
          by_cases hlt : t < n
          · have f1 : (t : Int) < (n : Int) := by omega
            have hkk : IntKind.i64.wrap ((t : Int) + 1) = ((t + 1 : Nat) : Int) := by rw [IntWalk.i64_in _ (by omega)]; rfl
            obtain ⟨y, hy⟩ : ∃ y, q1[t]? = some y := ⟨_, List.getElem?_eq_getElem (by have := HQ.out.2.2.1; omega)⟩
            have hyl : (setS l j i false)[t]? = some y.1 := by rw [← HQ.out.2.1, List.getElem?_map, hy]; rfl
            obtain ⟨g2, oo2, cap2, hc2, hl3, hl4, hg2, b0, b1⟩ := ref_row hS.ref hy
            rw [HQ.out.2.2.1] at hc2 hl3
            obtain ⟨_, _, _, _, c4, _⟩ := five_cells hc2
            have hus := usedR_ok wr (y.1.pg : Int) (some ⟨y.2.1, 0, none⟩) y.2.2 y.1.us (bool_row (hS.ref.used t y hy).2)
            obtain ⟨p2, hp2⟩ : ∃ p2, p2 = y.1.us.length := ⟨_, rfl⟩
            obtain ⟨m2, hm2⟩ : ∃ m2, m2 = y.1.us.count true := ⟨_, rfl⟩
            obtain ⟨pg, hpg⟩ : ∃ pg, pg = y.1.pg := ⟨_, rfl⟩
            rw [← hp2] at b1 hus
            rw [← hpg] at b0 hus
            rw [← hm2] at hus
            have HU := Lib.hid hus
            have HV := Lib.hid (And.intro hL (And.intro hS (And.intro hN (And.intro hyl hm2))))
            clear hL hS hN hyl hm2 hy hus hc2 hp2 hpg
            go_wp2_with (go_at_call 80; fail)
            refine HU.out.mono ?_
            rintro _ W6 ⟨rfl, hb6⟩
            obtain ⟨hS6, hN6⟩ := HV.out.2.1.same hb6
            have H6 := Lib.hid (And.intro hS6 (HV.out.2.2.1.trans hN6))
            clear hS6 hN6 hb6
            by_cases hm0 : m2 = 0
            · have hmb : (((m2 : Nat) : Int) == 0) = true := by simp [hm0]
              have HM := Lib.hid hm0
              clear hm0
              go_wp2_with (fail)
              go_roundw
              case rel => exact ⟨t + 1, t, by omega, by go_num, rfl, LastI.yes (z := 0) HV.out.2.2.2.1 (by show y.1.us.count true = 0; rw [← HV.out.2.2.2.2]; exact HM.out), H6.out.1, H6.out.2⟩
              case measure => simp [intOf]; omega
            · have hmb : (((m2 : Nat) : Int) == 0) = false := by simp [hm0]
              have HM := Lib.hid hm0
              clear hm0
              go_wp2_with (fail)
              go_roundw
              case rel => exact ⟨t + 1, z, by omega, by go_num, rfl, LastI.no HV.out.1 HV.out.2.2.2.1 (by show y.1.us.count true ≠ 0; rw [← HV.out.2.2.2.2]; exact HM.out), H6.out.1, H6.out.2⟩
              case measure => simp [intOf]; omega
          · obtain rfl : t = n := by omega
            have f1 : ¬ ((t : Nat) : Int) < (t : Int) := by omega
            have hln : (setS l j i false).length = t := by rw [← HQ.out.2.1, List.length_map]; exact HQ.out.2.2.1
            rw [← hln] at hL
            obtain ⟨y0, hlast, hy0⟩ := hL.end (by have := HQ.out.2.2.2.2.2.1; omega)
            obtain ⟨y, hy, hyy⟩ := map_at HQ.out.2.1 hy0
            have hmem : (y.1.pg, o) ∈ L := by
              have h1 := H1.out.2.2.2.2.1
              have h2 := HX.out.2.2.1.giv
              rw [setS_eq (l := l) (x := x.1) h1] at hy0
              rw [hyy]
              rw [List.getElem?_set] at hy0
              split at hy0
              · split at hy0
                · injection hy0 with hy0
                  rw [← hy0]
                  exact h2 x.1 (List.mem_of_getElem? h1)
                · cases hy0
              · exact h2 y0 (List.mem_of_getElem? hy0)
            obtain ⟨g2, oo2, cap2, hc2, hl3, hl4, _, _, _⟩ := ref_row hS.ref hy
            rw [HQ.out.2.2.1] at hc2 hl3
            unfold maxLen at hl4
            obtain ⟨_, _, _, _, c4, _⟩ := five_cells hc2
            have hgive := giveR_ok wr own r B ob s o kp N L q1 A cG hS HX.out.2.2.1.st (by have := HQ.out.2.2.1; omega) z y hy hmem
            have HG := Lib.hid hgive
            have HV := Lib.hid (And.intro hN (And.intro hlast (And.intro hy0 (And.intro hy hyy))))
            clear hgive hN hlast hy0 hy hyy hL hS hmem hln hc2
            go_wp2_with (go_at_call 84; fail)
            refine HG.out.mono ?_
            rintro _ W7 ⟨rfl, own7, A7, c7, hS7, hN7⟩
            have H7 := Lib.hid (And.intro hS7 hN7)
            clear hS7 hN7
            go_wp2_with (fail)
            go_ret
            obtain ⟨hN, hlast, hy0, hy, hyy⟩ := HV.out
            obtain ⟨_, hql1, _, _, _, hEE, _⟩ := HQ.out
            obtain ⟨_, _, _, hv, _, hfree, _⟩ := H1.out
            rw [hfree, if_neg (by rw [hv]; simp), if_neg (by have := hEE; show ¬ emptyS (setS l j i false) ≤ kp; omega)]
            rw [show lastE (setS l j i false) = some z from hlast]
            dsimp only
            rw [hy0]
            refine ⟨rfl, own7, q1.eraseIdx z, A7, c7, by show _ = (setS l j i false).eraseIdx z; rw [← hql1]; exact map_eraseIdx rfl z, ?_, ?_⟩
            · rw [hyy] at H7; exact H7.out.1
            · rw [hyy] at H7; exact hN.trans H7.out.2
      · have t1 : decide (kp < E) = false := decide_eq_false hgt
        have t2 : decide ((kp : Int) < (E : Int)) = false := decide_eq_false (by omega)
        go_region_held3 (fun w' => w'.cell? ⟨r, 1, none⟩ = some (.int .i64 (s : Int)) ∧ w'.cell? ⟨r, 2, none⟩ = some (.int .i64 (o : Int)) ∧ w'.cell? ⟨r, 3, none⟩ = some (.int .i64 (kp : Int)) ∧ w'.cell? ⟨r, 4, none⟩ = some (.slice A1 n cap1)) (first | exact ⟨k1, k2, k3, k4⟩ | exact ⟨y1, y2, y3, y4⟩) (first
          | (go_at_call 83; refine HE.out.mono ?_; rintro _ W5 ⟨rfl, hb5⟩; have y1 := cell_keep2 (w1 := World.drew W2) hb5 k1; have y2 := cell_keep2 (w1 := World.drew W2) hb5 k2; have y3 := cell_keep2 (w1 := World.drew W2) hb5 k3; have y4 := cell_keep2 (w1 := World.drew W2) hb5 k4; have H5 := Lib.hid hb5; clear hb5))
        go_wp2_with (fail)
        go_ret
        obtain ⟨_, hql1, _, hS2, hN2, hEE, _⟩ := HQ.out
        obtain ⟨_, _, _, hv, _, hfree, _⟩ := H1.out
        have hb5 : Below W2.heap.size W2 W5 := ⟨H5.out.os, H5.out.tape, H5.out.output, H5.out.size, H5.out.block⟩
        obtain ⟨hS5, hN5⟩ := hS2.same hb5
        rw [hfree, if_neg (by rw [hv]; simp), if_pos (by have := hEE; show emptyS (setS l j i false) ≤ kp; omega)]
        exact ⟨rfl, own, q1, A, cG, hql1, hS5, hN2.trans hN5⟩
  · have HN := Lib.hid (And.intro hS1 (And.intro hN1 hno))
    clear hS1 hN1 hno hW1 hbm
    go_wp2_with (fail)
    go_ret
    obtain ⟨hS1, hN1, hno⟩ := HN.out
    rw [free_miss HX.out.2.2.1 (fun j i x hx hi => by
      obtain ⟨y, hy, rfl⟩ := map_at HX.out.2.1 hx
      exact hno j i y hy hi)]
    exact ⟨rfl, own, q, A, cG, HX.out.2.1, hS1, hN1⟩
end Sl
end Go.Proofs.Ytlknhbcambdccaa
namespace Go.Proofs.Ytlknhbcambdccaa
open Go.RowKit
namespace Sl
open Bu

theorem run_slab_eq (w : World) (a b c d : Int) : (Op.equalIn 10000 39 (.agg #[.int .i64 a, .int .i64 b]) (.agg #[.int .i64 c, .int .i64 d])).run Try.prog w = .ok (a == c && b == d) w := by
  have hu : Try.prog.underlying 39 = some (.struct (Try.prog.fieldsOf 39)) := by kernel_rfl
  have hp : Try.prog.stoodInHeld 39 = false := by kernel_rfl
  have hf : (Try.prog.fieldsOf 39).toList.map (fun f => (f.name, f.type, f.offset)) = [("Page", 3, 0), ("Used", 3, 1)] := by kernel_rfl
  have he : Try.prog.plainKey 3 = true := by kernel_rfl
  have hi : Try.prog.underlying 3 = some (.int .i64) := by kernel_rfl
  rw [show (10000 : Nat) = 9999 + 1 from rfl, run_equalIn_struct w 9999 _ _ _ hu hp]
  generalize (Try.prog.fieldsOf 39).toList = fs at hf
  have hl : fs.length = 2 := by have := congrArg List.length hf; simpa using this
  obtain ⟨f, g, rfl⟩ : ∃ f g, fs = [f, g] := by
    cases fs with
    | nil => simp at hl
    | cons f fs => cases fs with
      | nil => simp at hl
      | cons g fs => cases fs with
        | nil => exact ⟨f, g, rfl⟩
        | cons h fs => simp at hl
  simp only [List.map_cons, List.map_nil, List.cons.injEq, Prod.mk.injEq, and_true] at hf
  obtain ⟨⟨f1, f2, f3⟩, g1, g2, g3⟩ := hf
  have p1 := fun (x y : Value) => run_part_plain (P := Try.prog) (w := w) he (xs := #[x, y]) (off := 0) (v := x) rfl
  have p2 := fun (x y : Value) => run_part_plain (P := Try.prog) (w := w) he (xs := #[x, y]) (off := 1) (v := y) rfl
  simp only [Op.eqFields, f1, f2, f3, g1, g2, g3, if_pos (show ("Page" : String) ≠ "_" by decide), if_pos (show ("Used" : String) ≠ "_" by decide), Sem.run_bind, p1, p2, Result.andThen, run_equalIn_int w 9998 3 .i64 .i64 _ _ hi]
  cases h1 : (a == c) with
  | false => simp
  | true =>
    cases h2 : (b == d) with
    | false => simp [Sem.run_bind, p2, Result.andThen, run_equalIn_int w 9998 3 .i64 .i64 _ _ hi, h2]
    | true => simp [Sem.run_bind, p2, Result.andThen, run_equalIn_int w 9998 3 .i64 .i64 _ _ hi, h2]


theorem run_slab_same (w : World) (a b : Int) : (binOp .neq 39 (.agg #[.int .i64 a, .int .i64 b]) (.agg #[.int .i64 a, .int .i64 b])).run Try.prog w = .ok (.bool false) w := by
  have h := run_slab_eq w a b a b
  rw [show (10000 : Nat) = Op.maxDepth from rfl] at h
  simp only [binOp]
  simp [Op.equal, h]

theorem view_get : ∀ (l : List Slb) (j : Nat) (x : Slb), l[j]? = some x → (viewS l)[j * 2]? = some (.int .i64 (x.pg : Int)) ∧ (viewS l)[j * 2 + 1]? = some (.int .i64 (x.many : Int)) := by
  intro l
  induction l with
  | nil => intro j x h; simp at h
  | cons y l ih =>
    intro j x h
    rw [show viewS (y :: l) = .int .i64 (y.pg : Int) :: .int .i64 (y.many : Int) :: viewS l from rfl]
    cases j with
    | zero => simp at h; subst h; exact ⟨rfl, rfl⟩
    | succ j =>
      have := ih j x (by simpa using h)
      rw [show (j + 1) * 2 = j * 2 + 2 by omega, show j * 2 + 2 + 1 = (j * 2 + 1) + 2 by omega]
      exact ⟨by simpa using this.1, by simpa using this.2⟩
/-- A row that Slabs returned. -/
theorem view_at {w : World} {B cp : Nat} {A : Option Addr} {l : List Slb} (h : w.ownsRow B 39 2 (.slice A l.length cp) l.length (viewS l)) {j : Nat} {x : Slb} (hx : l[j]? = some x) :
    ∃ g, A = some ⟨g, 0, none⟩ ∧ g < w.heap.size ∧ w.cell? ⟨g, j * 2, none⟩ = some (.int .i64 (x.pg : Int)) ∧ w.cell? ⟨g, j * 2 + 1, none⟩ = some (.int .i64 (x.many : Int)) := by
  have hj := (List.getElem?_eq_some_iff.1 hx).1
  obtain ⟨g, rfl⟩ := row_some h (by omega)
  obtain ⟨d0, d1⟩ := view_get l j x hx
  exact ⟨g, rfl, (h.lt g rfl).2, row_at h d0, row_at h d1⟩
theorem view_len {w : World} {B cp : Nat} {A : Option Addr} {l : List Slb} (h : w.ownsRow B 39 2 (.slice A l.length cp) l.length (viewS l)) : l.length ≤ cp ∧ cp ≤ maxLen := by
  rcases h.2 with ⟨hv, h0⟩ | ⟨g, cp', cur, hv, _, hg, h1, h2, _⟩
  · injection hv with _ _ e3; unfold maxLen; omega
  · injection hv with _ _ e3; omega

/-- What the last line of agrees reads. -/
def AgS (wb : World) (x b c r N : Nat) (A : Option Addr) (ln cG s o : Nat) (w' : World) : Prop :=
  Below wb.heap.size wb w' ∧ w'.cell? ⟨x, 0, none⟩ = some (.pointer (some ⟨b, 0, none⟩)) ∧ w'.cell? ⟨x, 1, none⟩ = some (.pointer (some ⟨c, 0, none⟩)) ∧ w'.cell? ⟨x, 2, none⟩ = some (.int .i64 (N : Int)) ∧ w'.cell? ⟨x, 3, none⟩ = some (.slice A ln cG) ∧ w'.cell? ⟨x, 4, none⟩ = some (.pointer (some ⟨r, 0, none⟩)) ∧ w'.cell? ⟨r, 1, none⟩ = some (.int .i64 (s : Int)) ∧ w'.cell? ⟨r, 2, none⟩ = some (.int .i64 (o : Int))
theorem AgS.below {wb : World} {x b c r N : Nat} {A : Option Addr} {ln cG s o : Nat} {V V' : World} (h : AgS wb x b c r N A ln cG s o V) (hb : Below V.heap.size V V') (hx : x < wb.heap.size) (hr : r < wb.heap.size) : AgS wb x b c r N A ln cG s o V' := by
  obtain ⟨h1, a0, a1, a2, a3, a4, a5, a6⟩ := h
  have hs := h1.size
  have hxv : x < V.heap.size := by omega
  have hrv : r < V.heap.size := by omega
  exact ⟨below_step h1 hb (Nat.le_refl _), (hb.cell (p := ⟨x, 0, none⟩) hxv).trans a0, (hb.cell (p := ⟨x, 1, none⟩) hxv).trans a1, (hb.cell (p := ⟨x, 2, none⟩) hxv).trans a2, (hb.cell (p := ⟨x, 3, none⟩) hxv).trans a3, (hb.cell (p := ⟨x, 4, none⟩) hxv).trans a4, (hb.cell (p := ⟨r, 1, none⟩) hrv).trans a5, (hb.cell (p := ⟨r, 2, none⟩) hrv).trans a6⟩

set_option maxRecDepth 100000 in
set_option maxHeartbeats 8000000 in
theorem agrees_ok (w0 : World) (Bp : Addr) (x c b r : Nat) (own own2 : Own?) (C : Ca) (N : Nat) (L : List Blk) (q : List RS) (A : Option Addr) (cG : Nat) (O : List Blk) (Ao : Option Addr) (co : Nat) (w : World) (h : Duo w0 Bp x c b r own own2 C N L q A cG O Ao co w) :
    Calls Try.prog 31 #[.pointer (some ⟨x, 0, none⟩)] w fun e w' => e = .returned (.bool true) ∧ Below w.heap.size w w' := by
  obtain ⟨n, hn⟩ : ∃ n, n = C.sl.length := ⟨_, rfl⟩
  have hqn : q.length = n := by rw [hn, ← h.refq, List.length_map]
  obtain ⟨M, hM⟩ : ∃ M, M = objC C := ⟨_, rfl⟩
  have hln := ok_len h.prog.held.ok
  rw [← hn] at hln
  have hMr : objC (refC C.size C.order C.keep q) = M := by rw [hM]; unfold refC; rw [h.refq]
  obtain ⟨x0, x1, x2, x3, x4, _⟩ := six_cells h.wrld
  have hxl := lt_of_heap h.wrld
  have HX := Lib.hid (And.intro h (And.intro hn (And.intro hqn (And.intro hM hMr))))
  have h1 := h.prog.objects
  rw [← hM] at h1
  have H1 := Lib.hid h1
  clear h hn hqn hM hMr h1
  go_enter Try.func31, Try.ntmps31
  go_wp2_with (go_at_call 19; fail)
  refine H1.out.mono ?_
  rintro _ W1 ⟨⟨Al, cl, rfl, hol⟩, hm1, hb1⟩
  have h2 := hm1.slabs
  rw [← HX.out.2.1] at h2
  replace x1 := (hb1.cell (p := ⟨x, 1, none⟩) hxl).trans x1
  replace x4 := (hb1.cell (p := ⟨x, 4, none⟩) hxl).trans x4
  have H2 := Lib.hid h2
  obtain ⟨nl, hnl⟩ : ∃ nl, nl = M.length := ⟨_, rfl⟩
  rw [← hnl]
  have HB1 := Lib.hid (And.intro hb1 (And.intro (own64_at hol) hnl))
  have hxl1 : x < W1.heap.size := Nat.lt_of_lt_of_le hxl hb1.size
  clear hol hm1 hb1 h2 hnl
  go_wp2_with (go_at_call 14; fail)
  refine H2.out.mono ?_
  rintro _ W2 ⟨⟨As, cs, rfl, hos⟩, hm2, hb2⟩
  have h3 := hm2.capacity
  replace x1 := (hb2.cell (p := ⟨x, 1, none⟩) hxl1).trans x1
  replace x4 := (hb2.cell (p := ⟨x, 4, none⟩) hxl1).trans x4
  obtain ⟨kc, hkc⟩ : ∃ kc, kc = capa C.size C.order := ⟨_, rfl⟩
  rw [← hkc] at h3
  have H3 := Lib.hid h3
  have hxl2 : x < W2.heap.size := Nat.lt_of_lt_of_le hxl1 hb2.size
  have HB2 := Lib.hid (And.intro hb2 (And.intro hos hkc))
  clear hos hm2 hb2 h3 hkc
  go_wp2_with (go_at_call 29; fail)
  refine H3.out.mono ?_
  rintro _ W3 ⟨rfl, hm3, hb3⟩
  replace x4 := (hb3.cell (p := ⟨x, 4, none⟩) hxl2).trans x4
  have hbw3 : Below w.heap.size w W3 := below_step (below_step HB1.out.1 HB2.out.1 (Nat.le_refl _)) hb3 (Nat.le_refl _)
  have hd3 := HX.out.1.below hbw3
  have h4 := slabsR_ok W3 own2 r Bp C.size C.order C.keep N L q hd3.ref hd3.fr2 hd3.refok
  rw [HX.out.2.2.1] at h4
  have H4 := Lib.hid h4
  have hxl3 : x < W3.heap.size := lt_of_heap hd3.wrld
  have HB3 := Lib.hid (And.intro hb3 hbw3)
  clear hm3 hb3 hbw3 hd3 h4
  go_wp2_with (go_at_call 62; fail)
  refine H4.out.mono ?_
  rintro _ W4 ⟨⟨Aw, cw, rfl, how⟩, hb4⟩
  have hb24 : Below W2.heap.size W2 W4 := below_step HB3.out.1 hb4 (Nat.le_refl _)
  have hos4 : W4.ownsRow W1.heap.size 39 2 (.slice As C.sl.length cs) C.sl.length (viewS C.sl) := by
    rw [← HX.out.2.1]
    exact row_keep HB2.out.2.1 fun z _ hz => hb24.block z hz
  have how4 : W4.ownsRow W3.heap.size 39 2 (.slice Aw C.sl.length cw) C.sl.length (viewS C.sl) := by
    rw [← HX.out.2.1]
    rw [HX.out.1.refq] at how
    exact how
  have hl1 := view_len hos4
  have hl2 := view_len how4
  rw [← HX.out.2.1] at hl1 hl2
  obtain ⟨hl1, hl3⟩ := hl1
  obtain ⟨hl2, hl4⟩ := hl2
  unfold maxLen at hl3 hl4
  have hnn : ((n : Int) != (n : Int)) = false := by simp
  have hbw4 : Below w.heap.size w W4 := below_step HB3.out.2 hb4 (Nat.le_refl _)
  have H4' := Lib.hid (And.intro hos4 (And.intro how4 (And.intro hbw4 hb4)))
  clear hos4 how4 how hbw4 hb4 hb24
  have hlM : 0 ≤ nl := Nat.zero_le _
  have hbnd : True := trivial
  go_wp2_with (fail)
  go_loopw [10] (fun i wr => ∃ k : Nat, k ≤ n ∧ i = .int .i64 (k : Int) ∧ ∃ m, wr = W4.drewN m) (fun i _ => n - (intOf i).toNat)
  case atStart => exact ⟨0, Nat.zero_le _, rfl, 0, rfl⟩
  case round =>
    obtain ⟨k, hk, rfl, m, hm⟩ := hrel
    have e0 : (0 : Int) ≤ (k : Int) := by omega
    by_cases hlt : k < n
    · have e1 : (k : Int) < (n : Int) := by omega
      have hkk : IntKind.i64.wrap ((k : Int) + 1) = ((k + 1 : Nat) : Int) := by rw [IntWalk.i64_in _ (by omega)]; rfl
      obtain ⟨y, hy⟩ : ∃ y, C.sl[k]? = some y := ⟨_, List.getElem?_eq_getElem (by have := HX.out.2.1; omega)⟩
      obtain ⟨g1, rfl, _, a0, a1⟩ := view_at H4'.out.1 hy
      obtain ⟨g2, rfl, _, b0, b1⟩ := view_at H4'.out.2.1 hy
      replace a0 : wr.cell? ⟨g1, k * 2, none⟩ = some (.int .i64 (y.pg : Int)) := by rw [hm]; exact a0
      replace a1 : wr.cell? ⟨g1, k * 2 + 1, none⟩ = some (.int .i64 (y.many : Int)) := by rw [hm]; exact a1
      replace b0 : wr.cell? ⟨g2, k * 2, none⟩ = some (.int .i64 (y.pg : Int)) := by rw [hm]; exact b0
      replace b1 : wr.cell? ⟨g2, k * 2 + 1, none⟩ = some (.int .i64 (y.many : Int)) := by rw [hm]; exact b1
      have hne := fun W => run_slab_same W (y.pg : Int) (y.many : Int)
      have HM := Lib.hid hm
      clear hm hy
      go_wp2_with (fail)
      go_quiet (fail)
      go_wp2
      go_roundw
      case rel => exact ⟨k + 1, by omega, by go_num, _, by rw [HM.out]; exact World.drewN_drewN ..⟩
      case measure => simp [intOf]; omega
    · obtain rfl : k = n := by omega
      have e1 : ¬ ((k : Nat) : Int) < (k : Int) := by omega
      have hbl : Below w.heap.size w wr := by rw [hm]; exact below_drewN H4'.out.2.2.1 _
      have hil : I64At wr Al cl M := by
        rw [hm]
        exact (HB1.out.2.1.below (below_step (below_step HB2.out.1 HB3.out.1 (Nat.le_refl _)) H4'.out.2.2.2 (Nat.le_refl _))).below (below_drew W4 m)
      clear hm
      have hd := HX.out.1.below hbl
      obtain ⟨ln, hlnn⟩ : ∃ ln, ln = L.length := ⟨_, rfl⟩
      obtain ⟨y0, y1, y2, y3, y4, _⟩ := six_cells hd.wrld
      rw [← hlnn] at y3
      obtain ⟨Ar, cr, hrc, _⟩ := hd.ref.cell
      obtain ⟨_, c1, c2, _⟩ := five_cells hrc
      have hxb := lt_of_heap hd.wrld
      have hrb := lt_of_heap hrc
      have hS0 : AgS wr x b c r N A ln cG C.size C.order (World.drew wr) := ⟨below_drew wr 1, y0, y1, y2, y3, y4, c1, c2⟩
      obtain ⟨l, hl⟩ : ∃ l, l = saveS C.sl := ⟨_, rfl⟩
      have hlk : l.length = k := by rw [hl, saveS_len, HX.out.2.1]
      have HRO : Hid (∀ V, Below wr.heap.size wr V → Calls Try.prog 53 #[.pointer (some ⟨r, 0, none⟩)] V fun e V' => (∃ A cp, e = .returned (.slice A nl cp) ∧ I64At V' A cp M) ∧ Below V.heap.size V V') := Lib.hid fun V hb => by
        have h2 := hd.below hb
        refine (objectsR_ok V own2 r Bp C.size C.order C.keep N L q h2.ref h2.fr2 h2.refok).mono ?_
        rintro e V' ⟨⟨A, cp, he, ho⟩, hb⟩
        rw [HX.out.2.2.2.2] at he ho
        rw [← HB1.out.2.2] at he
        exact ⟨⟨A, cp, he, own64_at ho⟩, hb⟩
      have HIn : Hid (∀ V A cp, Below wr.heap.size wr V → I64At V A cp M → Calls Try.prog 63 #[.slice Al nl cl, .slice A nl cp] V fun e V' => e = .returned (.bool true) ∧ Below V.heap.size V V') := Lib.hid fun V A cp hb hA => by
        have := ints_ok V Al A cl cp M (hil.below hb) hA
        rw [← HB1.out.2.2] at this; exact this
      have HCa : Hid (∀ V, Calls Try.prog 64 #[.int .i64 (C.size : Int), .int .i64 (C.order : Int)] V fun e V' => e = .returned (.int .i64 (kc : Int)) ∧ V = V') := Lib.hid fun V => by
        have := capacityR_ok V C.size C.order hd.prog.held.ok.sz.1 hd.prog.held.ok.od
        rw [← HB2.out.2.2] at this; exact this
      have HSp : Hid (∀ V, Below wr.heap.size wr V → Calls Try.prog 27 #[.pointer (some ⟨c, 0, none⟩)] V fun e V' => (∃ A cp, e = .returned (stv (C.size : Int) (C.order : Int) (C.keep : Int) A k cp) ∧ SbAt 0 V' A cp l) ∧ Below V.heap.size V V') := Lib.hid fun V hb => by
        refine (saveS_ok V own c b C N L (hd.below hb).prog.held).mono ?_
        rintro e V' ⟨⟨A, cp, he, ho⟩, hb⟩
        rw [← HX.out.2.1] at he
        exact ⟨⟨A, cp, he, hl ▸ SbAt.low (Nat.zero_le _) ho⟩, hb⟩
      have HSr : Hid (∀ V, Below wr.heap.size wr V → Calls Try.prog 65 #[.pointer (some ⟨r, 0, none⟩)] V fun e V' => (∃ A cp, e = .returned (stv (C.size : Int) (C.order : Int) (C.keep : Int) A k cp) ∧ SbAt 0 V' A cp l) ∧ Below V.heap.size V V') := Lib.hid fun V hb => by
        have h2 := hd.below hb
        refine (saveR_ok V own2 r Bp C.size C.order C.keep N L q h2.ref h2.refok).mono ?_
        rintro e V' ⟨⟨A, cp, he, ho⟩, hb⟩
        rw [HX.out.2.2.1] at he
        rw [h2.refq] at ho
        exact ⟨⟨A, cp, he, hl ▸ SbAt.low (Nat.zero_le _) ho⟩, hb⟩
      have HSa : Hid (∀ V A B c1 d1, SbAt 0 V A c1 l → SbAt 0 V B d1 l → Calls Try.prog 28 #[stv (C.size : Int) (C.order : Int) (C.keep : Int) A k c1, stv (C.size : Int) (C.order : Int) (C.keep : Int) B k d1] V fun e V' => e = .returned (.bool true) ∧ Below V.heap.size V V') := Lib.hid fun V A B c1 d1 hA hB => by
        have := sameS_ok V (C.size : Int) (C.order : Int) (C.keep : Int) A B c1 d1 l hA hB
        rw [hlk] at this; exact this
      have HBs : Hid (∀ V, Below wr.heap.size wr V → Calls Try.prog 18 #[.pointer (some ⟨b, 0, none⟩)] V fun e V' => (∃ A cp, e = .returned (sv N A ln cp) ∧ BlkAt V' A cp L) ∧ Below V.heap.size V V') := Lib.hid fun V hb => by
        refine (save_ok V b N L (hd.below hb).prog.held.bu).mono ?_
        rintro e V' ⟨⟨A, cp, he, ho⟩, hb⟩
        rw [← hlnn] at he
        exact ⟨⟨A, cp, he, ho.at.1⟩, hb⟩
      have HS8 : Hid (∀ V A1 c1, Below wr.heap.size wr V → BlkAt V A1 c1 L → Calls Try.prog 21 #[sv N A1 ln c1, sv N A ln cG] V fun e V' => e = .returned (.bool true) ∧ Below V.heap.size V V') := Lib.hid fun V A1 c1 hb hA => by
        have := same_self V N A1 A c1 cG L hA (hd.st.1.below hb)
        rw [← hlnn] at this; exact this
      have HF := Lib.hid hbl
      clear hd hlnn hrc hil hl hlk hbl hnn hlM hbnd x1 x4
      have hkcc : ((kc : Int) == (kc : Int)) = true := by simp
      go_wp2_with (fail)
      unfold AgS at hS0
      go_region_held3 (fun w' => Below wr.heap.size wr w' ∧ w'.cell? ⟨x, 0, none⟩ = some (.pointer (some ⟨b, 0, none⟩)) ∧ w'.cell? ⟨x, 1, none⟩ = some (.pointer (some ⟨c, 0, none⟩)) ∧ w'.cell? ⟨x, 2, none⟩ = some (.int .i64 (N : Int)) ∧ w'.cell? ⟨x, 3, none⟩ = some (.slice A ln cG) ∧ w'.cell? ⟨x, 4, none⟩ = some (.pointer (some ⟨r, 0, none⟩)) ∧ w'.cell? ⟨r, 1, none⟩ = some (.int .i64 (C.size : Int)) ∧ w'.cell? ⟨r, 2, none⟩ = some (.int .i64 (C.order : Int)))
        (first | assumption | exact hS0 | exact AgS.below (by assumption) hb5 hxb hrb | exact AgS.below (by assumption) hb6 hxb hrb | exact AgS.below (by assumption) hb7 hxb hrb | exact AgS.below (by assumption) hb8 hxb hrb | exact AgS.below (by assumption) hb9 hxb hrb | exact AgS.below (by assumption) hb10 hxb hrb | exact AgS.below (by assumption) hb11 hxb hrb)
        (first
        | (go_at_call 53; refine (HRO.out _ (And.left (by assumption))).mono ?_; rintro _ W5 ⟨⟨A5, c5, rfl, h5⟩, hb5⟩; have H5 := Lib.hid h5; clear h5)
        | (go_at_call 63; refine (HIn.out _ _ _ (And.left (by assumption)) H5.out).mono ?_; rintro _ W6 ⟨rfl, hb6⟩)
        | (go_at_call 64; refine (HCa.out _).mono ?_; rintro _ _ ⟨rfl, rfl⟩)
        | (go_at_call 27; refine (HSp.out _ (And.left (by assumption))).mono ?_; rintro _ W7 ⟨⟨A7, c7, rfl, h7⟩, hb7⟩; have H7 := Lib.hid (And.intro h7 hb7); clear h7)
        | (go_at_call 65; refine (HSr.out _ (And.left (by assumption))).mono ?_; rintro _ W8 ⟨⟨A8, c8, rfl, h8⟩, hb8⟩; have H8 := Lib.hid (And.intro h8 hb8); clear h8)
        | (go_at_call 28; (first | refine (HSa.out _ _ _ _ _ (H7.out.1.below H8.out.2) H8.out.1).mono ?_ | refine (HSa.out _ _ _ _ _ H7.out.1 (H8.out.1.below H7.out.2)).mono ?_); rintro _ W9 ⟨rfl, hb9⟩)
        | (go_at_call 18; refine (HBs.out _ (And.left (by assumption))).mono ?_; rintro _ W10 ⟨⟨A10, c10, rfl, h10⟩, hb10⟩; have H10 := Lib.hid h10; clear h10)
        | (go_at_call 21; refine (HS8.out _ _ _ (And.left (by assumption)) H10.out).mono ?_; rintro _ W11 ⟨rfl, hb11⟩))
      all_goals
        go_wp2_with (fail)
        go_ret
        exact ⟨rfl, below_step HF.out (And.left (by assumption)) (Nat.le_refl _)⟩
end Sl
end Go.Proofs.Ytlknhbcambdccaa
namespace Go.Proofs.Ytlknhbcambdccaa
open Go.RowKit
namespace Sl
open Bu

/-- What pick returns. -/
def PickR (M : List Nat) (e : Ending) : Prop := ∃ a : Nat, e = .returned (.int .i64 (a : Int)) ∧ (a = 0 ∨ a ∈ M)

set_option maxRecDepth 100000 in
set_option maxHeartbeats 2000000 in
theorem pick_ok (w : World) (A : Option Addr) (c : Nat) (M : List Nat) (n : Int) (h : I64At w A c M) (hM : M.length ≤ 1000000) :
    Calls Try.prog 55 #[.slice A M.length c, .int .i64 n] w fun e w' => PickR M e ∧ w = w' := by
  by_cases h0 : M.length = 0
  · have hz : ((M.length : Int) == 0) = true := by rw [h0]; rfl
    obtain ⟨ml, hml⟩ : ∃ ml, ml = M.length := ⟨_, rfl⟩
    rw [← hml] at hz ⊢
    clear h h0 hml
    go_enter Try.func55, Try.ntmps55
    go_wp2
    go_ret
    exact ⟨⟨0, rfl, .inl rfl⟩, rfl⟩
  · obtain ⟨U, k, hU, hk, hl64, htm, hem, hk64, hki⟩ := pick_nums n M.length (by omega) hM
    have hz : ((M.length : Int) == 0) = false := by simp; exact fun e => h0 (by rw [e]; rfl)
    obtain ⟨a, ha⟩ : ∃ a, M[k]? = some a := ⟨_, List.getElem?_eq_getElem hk⟩
    obtain ⟨g, o, rfl, hg, d⟩ := h.at_ k a ha
    have hln := h.len
    have hcm := h.cap
    unfold maxLen at hcm
    obtain ⟨ml, hml⟩ : ∃ ml, ml = M.length := ⟨_, rfl⟩
    rw [← hml] at hz hl64 htm hem hk hln h0 ⊢
    have HM := Lib.hid (And.intro ha hml)
    have eU : (0 : Int) ≤ (U : Int) := by omega
    have eL : (0 : Int) ≤ (ml : Int) := by omega
    have eL2 : (ml : Int) ≠ 0 := by omega
    have e0 : (0 : Int) ≤ (k : Int) := by omega
    have e1 : (k : Int) < (ml : Int) := by omega
    clear ha h hml
    go_enter Try.func55, Try.ntmps55
    go_wp2
    go_ret
    exact ⟨⟨a, rfl, .inr (List.mem_of_getElem? HM.out.1)⟩, rfl⟩
end Sl
end Go.Proofs.Ytlknhbcambdccaa
namespace Go.Proofs.Ytlknhbcambdccaa
open Go.RowKit
namespace Sl
open Bu

/-- The other user's blocks are given, and none of a slab. -/
def SubO (O L : List Blk) (o : Nat) (sl : List Slb) : Prop := ∀ z ∈ O, z ∈ L ∧ ∀ y ∈ sl, z ≠ (y.pg, o)

theorem mem_setS {l : List Slb} {j i : Nat} {v : Bool} {y : Slb} (h : y ∈ setS l j i v) : ∃ y0 ∈ l, y.pg = y0.pg := by
  unfold setS at h
  cases hx : l[j]? with
  | none => rw [hx] at h; exact ⟨y, h, rfl⟩
  | some x =>
    rw [hx] at h
    rcases List.mem_or_eq_of_mem_set h with h | h
    · exact ⟨y, h, rfl⟩
    · exact ⟨x, List.mem_of_getElem? hx, by rw [h]⟩

theorem sub_alloc {O L L' : List Blk} {C : Ca} {N a : Nat} {sl : List Slb} (H : CaOk C N L) (h : SubO O L C.order C.sl) (ha : allocC C N L = some (a, sl, L')) : SubO O L' C.order sl := by
  unfold allocC at ha
  cases hp : pickS 0 none C.sl with
  | some jm =>
    obtain ⟨j, m⟩ := jm
    rw [hp] at ha
    dsimp only at ha
    cases hx : C.sl[j]? with
    | none => rw [hx] at ha; cases ha
    | some x =>
      rw [hx] at ha
      injection ha with ha; injection ha with _ ha; injection ha with h1 h2
      subst h1; subst h2
      intro z hz
      refine ⟨(h z hz).1, fun y hy => ?_⟩
      obtain ⟨y0, hy0, e⟩ := mem_setS hy
      rw [e]; exact (h z hz).2 y0 hy0
  | none =>
    rw [hp] at ha
    dsimp only at ha
    cases hb : allocB N L C.order with
    | none => rw [hb] at ha; cases ha
    | some pl =>
      obtain ⟨p, L2⟩ := pl
      rw [hb] at ha
      injection ha with ha; injection ha with _ ha; injection ha with h1 h2
      subst h1; subst h2
      obtain ⟨_, _, _, _, hin, hf, _⟩ := alloc_found H.st hb
      have hfr := (freeB_iff H.st.inb hin.2.1).1 hf
      have hpp := pow_pos2 C.order
      intro z hz
      refine ⟨by rw [put_is hb]; exact mem_putB.2 (.inr (h z hz).1), fun y hy => ?_⟩
      rcases mem_insS.1 hy with rfl | hy
      · intro e
        rcases disj_of H.st.inb hin hfr (h z hz).1 with h1 | h1
        · rw [e] at h1
          have h1 : p + 2 ^ C.order ≤ p := h1; omega
        · rw [e] at h1
          have h1 : p + 2 ^ C.order ≤ p := h1; omega
      · exact (h z hz).2 y hy

theorem sub_free {O L L' : List Blk} {C : Ca} {n : Nat} {at_ : Int} {sl : List Slb} (h : SubO O L C.order C.sl) (hf : freeC C L at_ = (n, sl, L')) : SubO O L' C.order sl := by
  have key : ∀ (M : List Blk) (l : List Slb), (n, sl, L') = (n, l, M) → SubO O M C.order l → SubO O L' C.order sl := fun M l e hk => by
    injection e with _ e; injection e with h1 h2
    rw [h1, h2]; exact hk
  have hset : ∀ j i, SubO O L C.order (setS C.sl j i false) := fun j i z hz => ⟨(h z hz).1, fun y hy => by
    obtain ⟨y0, hy0, e⟩ := mem_setS hy
    rw [e]; exact (h z hz).2 y0 hy0⟩
  unfold freeC at hf
  have fin : ∀ (m : Nat) (l : List Slb) (M : List Blk), SubO O M C.order l → (m, l, M) = (n, sl, L') → SubO O L' C.order sl := fun m l M hk e => by
    injection e with _ e; injection e with h1 h2
    rw [← h1, ← h2]; exact hk
  split at hf
  · exact fin _ _ _ h hf
  · split at hf
    · exact fin _ _ _ h hf
    · split at hf
      · exact fin _ _ _ h hf
      · split at hf
        · exact fin _ _ _ h hf
        · dsimp only at hf
          split at hf
          · exact fin _ _ _ (hset _ _) hf
          · split at hf
            · exact fin _ _ _ (hset _ _) hf
            · split at hf
              · exact fin _ _ _ (hset _ _) hf
              · next y hy =>
                refine fin _ _ _ (fun z hz => ?_) hf
                obtain ⟨g1, g2⟩ := hset _ _ z hz
                exact ⟨mem_delB.2 ⟨g1, g2 y (List.mem_of_getElem? hy)⟩, fun y' hy' => g2 y' (List.mem_of_mem_eraseIdx hy')⟩

theorem mem_delK {o : Nat} {L : List Blk} {z : Blk} : ∀ {l : List Slb}, z ∈ L → (∀ y ∈ l, z ≠ (y.pg, o)) → z ∈ delK o L l := by
  intro l
  induction l with
  | nil => intro h _; exact h
  | cons y l ih =>
    intro h hn
    have h2 := ih h fun y hy => hn y (List.mem_cons_of_mem _ hy)
    unfold delK at h2 ⊢
    rw [List.filter_cons]
    split
    · exact mem_delB.2 ⟨h2, hn y (List.mem_cons_self ..)⟩
    · exact h2
theorem sub_trim {O L : List Blk} {C : Ca} (h : SubO O L C.order C.sl) : SubO O (trimL C L) C.order (trimC C).sl := fun z hz =>
  ⟨mem_delK (h z hz).1 (h z hz).2, fun y hy => (h z hz).2 y (List.mem_filter.1 hy).1⟩

/-- A valid state is what Save returns. -/
theorem ok_okX {C : Ca} {N : Nat} {L : List Blk} (H : CaOk C N L) : OkX L C.order (capa C.size C.order) (saveS C.sl) := by
  intro i x hx
  unfold saveS at hx
  rw [List.getElem?_map] at hx
  obtain ⟨y, hy, rfl⟩ := Option.map_eq_some_iff.1 hx
  have hm := List.mem_of_getElem? hy
  refine ⟨Int.natCast_nonneg _, by rw [Int.toNat_natCast]; exact H.giv y hm, ?_, H.len y hm⟩
  unfold lastOf
  by_cases h0 : i = 0
  · rw [if_pos h0]
    show (-1 : Int) < (y.pg : Int)
    omega
  · rw [if_neg h0]
    obtain ⟨hi, hie⟩ := List.getElem?_eq_some_iff.1 hy
    unfold saveS
    rw [List.getElem?_map, List.getElem?_eq_getElem (show i - 1 < C.sl.length by omega)]
    have := List.pairwise_iff_getElem.1 H.asc (i - 1) i (by omega) hi (by omega)
    rw [hie] at this
    show ((C.sl[i - 1].pg : Nat) : Int) < (y.pg : Int)
    omega

theorem RefS.keeps {W W1 : World} {own own' own2 : Own?} {r x ob s o kp N : Nat} {q : List RS} {A : Option Addr} {cG : Nat} {L : List Blk} (h : RefS W own2 r x ob s o kp N q A cG L) (hK : Keeps own own' W W1) (hd : ∀ z, own z ≠ none → own2 z = none) (hx : own x = none) (hA : L ≠ [] → ∀ g, A.map (·.block) = some g → own g = none) :
    RefS W1 own2 r x ob s o kp N q A cG L := by
  obtain ⟨cs, T, h1, h2, h3⟩ := h.cell
  have hn : ∀ z, own2 z ≠ none → own z = none := fun z hz => Classical.byContradiction fun e => hz (hd z e)
  have hxl := lt_of_heap h1
  refine ⟨h.ref.same hK.size fun k hk hl => ⟨hK.block k hl (hn k hk), rfl⟩, fun k hk => Nat.lt_of_lt_of_le (h.fr k hk) hK.size, h.ownB, ⟨cs, T, (hK.block x hxl hx).trans h1, h2, h3⟩, ?_, fun hL g hg => ?_⟩
  · by_cases hL : L = []
    · have := h.blk.len
      subst hL
      exact ⟨this.1, this.2, fun j x hx => by simp at hx⟩
    · exact h.blk.keep hK.size fun g hg hl => hK.block g hl (hA hL g hg)
  · obtain ⟨k1, k2⟩ := h.far hL g hg
    exact ⟨Nat.lt_of_lt_of_le k1 hK.size, k2⟩

theorem Mine.keepB {w0 W1 W2 : World} {own own2 own2' : Own?} {c b x N : Nat} {C : Ca} {L : List Blk} (h : Mine w0 own c b C N L W1) (hK : KeepB own2 own2' x W1 W2) (hd : ∀ z, own z ≠ none → own2 z = none ∧ z ≠ x) (hx : w0.heap.size ≤ x) (ho2 : ∀ z, z < w0.heap.size → own2 z = none) : Mine w0 own c b C N L W2 := by
  obtain ⟨⟨A, cap, R, hc⟩, hbu, hok, hfr⟩ := h.held
  have hs := h.below.size
  have hk : ∀ z, own z ≠ none → W2.heap[z]? = W1.heap[z]? := fun z hz => hK.block z (hfr z hz) (hd z hz).1 (hd z hz).2
  refine ⟨⟨⟨A, cap, R, hc.same (fun k ho _ _ => hk k ho) (fun _ _ _ => rfl) rfl⟩, hbu.keep (hk b (by rw [hc.ownB]; simp)), hok, fun k hk => Nat.lt_of_lt_of_le (hfr k hk) hK.size⟩, ⟨hK.os.trans h.below.os, hK.tape.trans h.below.tape, hK.output.trans h.below.output, Nat.le_trans hs hK.size, fun z hz => ?_⟩, h.out⟩
  exact (hK.block z (by omega) (ho2 z hz) (by omega)).trans (h.below.block z hz)

theorem Duo.refS {w0 : World} {x c b r : Nat} {own own2 : Own?} {C : Ca} {N : Nat} {L : List Blk} {q : List RS} {A : Option Addr} {cG : Nat} {O : List Blk} {Ao : Option Addr} {co : Nat} {W : World} (h : Duo w0 ⟨x, 2, none⟩ x c b r own own2 C N L q A cG O Ao co W) : RefS W own2 r x 2 C.size C.order C.keep N q A cG L :=
  ⟨h.ref, h.fr2, h.xnew.2.2, ⟨_, _, h.wrld, rfl, rfl⟩, h.st.1, fun hL g hg => by
    obtain ⟨h1, _, h2, h3⟩ := h.st.2 hL g hg
    exact ⟨h1, h2, h3⟩⟩
theorem Duo.refS1 {w0 : World} {x c b r : Nat} {own own2 own' : Own?} {C : Ca} {N : Nat} {L : List Blk} {q : List RS} {A : Option Addr} {cG : Nat} {O : List Blk} {Ao : Option Addr} {co : Nat} {W W1 : World} (h : Duo w0 ⟨x, 2, none⟩ x c b r own own2 C N L q A cG O Ao co W) (hK : Keeps own own' W W1) : RefS W1 own2 r x 2 C.size C.order C.keep N q A cG L :=
  h.refS.keeps hK h.dis h.xnew.2.1 fun hL g hg => (h.st.2 hL g hg).2.1

/-- Both have done the same. -/
theorem Duo.next {w0 : World} {x c b r : Nat} {own own' own2 own2' : Own?} {C C' : Ca} {N : Nat} {L L' : List Blk} {q q' : List RS} {A A' : Option Addr} {cG c' : Nat} {O : List Blk} {Ao : Option Addr} {co : Nat} {W W1 W2 : World} (h : Duo w0 ⟨x, 2, none⟩ x c b r own own2 C N L q A cG O Ao co W)
    (hM : Mine w0 own' c b C' N L' W1) (hK : Keeps own own' W W1) (hP : RefS W2 own2' r x 2 C'.size C'.order C'.keep N q' A' c' L') (hN : RefN own2 own2' x 2 A L W1 W2 A' c' L') (hq : q'.map (·.1) = C'.sl) (hsub : SubO O L' C'.order C'.sl) :
    Duo w0 ⟨x, 2, none⟩ x c b r own' own2' C' N L' q' A' c' O Ao co W2 := by
  have hxl := lt_of_heap h.wrld
  have hs1 := hK.size
  have hs2 := hN.keep.size
  have hs0 := h.prog.below.size
  have hd1 : ∀ z, own' z ≠ none → own2 z = none ∧ z ≠ x := fun z hz => by
    rcases hK.new z hz with h1 | ⟨h1, _⟩
    · exact ⟨h.dis z h1, fun e => h1 (by rw [e]; exact h.xnew.2.1)⟩
    · exact ⟨Classical.byContradiction fun e => by have := h.fr2 z e; omega, by omega⟩
  have hx' : own' x = none := (hK.same x hxl).trans h.xnew.2.1
  refine ⟨hM.keepB hN.keep hd1 h.xnew.1 h.out2, hP.ref, hq, hP.fr, fun z hz => (hN.keep.same z (by omega)).trans (h.out2 z hz), fun z hz => ?_, ?_, ⟨h.xnew.1, hx', (hN.keep.same x (by omega)).trans h.xnew.2.2⟩, ⟨hP.blk, fun hL g hg => ?_⟩, ⟨?_, h.oth.2.1, fun g hg => ?_⟩, hsub, h.nd⟩
  · refine Classical.byContradiction fun e => ?_
    rcases hN.keep.new z e with h1 | ⟨h1, _⟩
    · exact h1 (hd1 z hz).1
    · have := hM.held.fresh z hz; omega
  · obtain ⟨cs, T, h1, h2⟩ := hN.set
    rw [hK.block x hxl h.xnew.2.1, h.wrld] at h1
    injection h1 with h1; injection h1 with h1 h3
    rw [h2, ← h1, ← h3]; rfl
  · obtain ⟨k1, k2, k3⟩ := hP.far hL g hg
    refine ⟨k1, ?_, k2, k3⟩
    rcases hN.new with ⟨e1, e2⟩ | e
    · have := h.st.2 (by rw [← e2]; exact hL) g (by rw [← e1]; exact hg)
      exact (hK.same g this.1).trans this.2.1
    · exact Classical.byContradiction fun e3 => by have := hM.held.fresh g e3; have := e g hg; omega
  · refine h.oth.1.keep (by omega) fun g hg hl => ?_
    obtain ⟨_, k2, k3, k4⟩ := h.oth.2.2 g hg
    exact (hN.keep.block g (by omega) k3 k4).trans (hK.block g hl k2)
  · obtain ⟨k1, k2, k3, k4⟩ := h.oth.2.2 g hg
    exact ⟨by omega, (hK.same g k1).trans k2, (hN.keep.same g (by omega)).trans k3, k4⟩

/-- As Duo; and the other user's list is a row of the call's own. -/
structure DuoO (w0 : World) (Bp : Addr) (x c b r : Nat) (own own2 : Own?) (C : Ca) (N : Nat) (L : List Blk) (q : List RS) (A : Option Addr) (cG : Nat) (O : List Blk) (Ao : Option Addr) (co : Nat) (W : World) : Prop extends Duo w0 Bp x c b r own own2 C N L q A cG O Ao co W where
  oo : Bu.Own W w0.heap.size Ao co O

theorem own_block {Ao : Option Addr} {n co g : Nat} (h : (Value.slice Ao n co).ownBlock = some g) : Ao.map (·.block) = some g := by
  cases Ao with
  | none => cases h
  | some a => injection h with h; rw [← h]; rfl
theorem Duo.ownO {w0 : World} {Bp : Addr} {x c b r : Nat} {own own2 : Own?} {C : Ca} {N : Nat} {L : List Blk} {q : List RS} {A : Option Addr} {cG : Nat} {O : List Blk} {Ao : Option Addr} {co : Nat} {W W' : World} (h : Duo w0 Bp x c b r own own2 C N L q A cG O Ao co W) (hO : Bu.Own W w0.heap.size Ao co O) (hk : ∀ g, g < W.heap.size → own g = none → own2 g = none → g ≠ x → W'.heap[g]? = W.heap[g]?) : Bu.Own W' w0.heap.size Ao co O :=
  row_sameB hO fun g hg => by
    obtain ⟨k1, k2, k3, k4⟩ := h.oth.2.2 g (own_block hg)
    exact hk g k1 k2 k3 k4
theorem DuoO.below {w0 : World} {Bp : Addr} {x c b r : Nat} {own own2 : Own?} {C : Ca} {N : Nat} {L : List Blk} {q : List RS} {A : Option Addr} {cG : Nat} {O : List Blk} {Ao : Option Addr} {co : Nat} {W W' : World} (h : DuoO w0 Bp x c b r own own2 C N L q A cG O Ao co W) (hb : Below W.heap.size W W') :
    DuoO w0 Bp x c b r own own2 C N L q A cG O Ao co W' :=
  { toDuo := h.toDuo.below hb, oo := h.toDuo.ownO h.oo fun g hg _ _ _ => hb.block g hg }
theorem DuoO.next {w0 : World} {x c b r : Nat} {own own' own2 own2' : Own?} {C C' : Ca} {N : Nat} {L L' : List Blk} {q q' : List RS} {A A' : Option Addr} {cG c' : Nat} {O : List Blk} {Ao : Option Addr} {co : Nat} {W W1 W2 : World} (h : DuoO w0 ⟨x, 2, none⟩ x c b r own own2 C N L q A cG O Ao co W)
    (hM : Mine w0 own' c b C' N L' W1) (hK : Keeps own own' W W1) (hP : RefS W2 own2' r x 2 C'.size C'.order C'.keep N q' A' c' L') (hN : RefN own2 own2' x 2 A L W1 W2 A' c' L') (hq : q'.map (·.1) = C'.sl) (hsub : SubO O L' C'.order C'.sl) :
    DuoO w0 ⟨x, 2, none⟩ x c b r own' own2' C' N L' q' A' c' O Ao co W2 :=
  { toDuo := h.toDuo.next hM hK hP hN hq hsub, oo := h.toDuo.ownO h.oo fun g hg k2 k3 k4 => (hN.keep.block g (Nat.lt_of_lt_of_le hg hK.size) k3 k4).trans (hK.block g hg k2) }

/-- The law's world at x: a cache and the reference agree. -/
def Wld (w0 : World) (x b r N : Nat) (W : World) : Prop := ∃ c own own2 C L q A cG O Ao co, DuoO w0 ⟨x, 2, none⟩ x c b r own own2 C N L q A cG O Ao co W

/-- Alloc of the reference. -/
theorem allocR_any (w : World) (own : Own?) (r B ob : Nat) (s o kp N : Nat) (L : List Blk) (q : List RS) (A : Option Addr) (cG : Nat) (hq0 : RefS w own r B ob s o kp N q A cG L) (l : List Slb) (hq : q.map (·.1) = l) (H : CaOk ⟨s, o, kp, l⟩ N L) :
    Calls Try.prog 54 #[.pointer (some ⟨r, 0, none⟩)] w fun e w' => AllocQ w own r B ob s o kp N A L l (allocC ⟨s, o, kp, l⟩ N L) e w' := by
  cases hp : pickS 0 none l with
  | some jm => obtain ⟨j, m⟩ := jm; exact allocR_some w own r B ob s o kp N L q A cG hq0 l hq H j m hp
  | none =>
    cases hb : allocB N L o with
    | none => exact allocR_full w own r B ob s o kp N L q A cG hq0 l hq H hp hb
    | some pl => obtain ⟨p, D⟩ := pl; exact allocR_new w own r B ob s o kp N L q A cG hq0 l hq H p D hp hb
end Sl
end Go.Proofs.Ytlknhbcambdccaa
