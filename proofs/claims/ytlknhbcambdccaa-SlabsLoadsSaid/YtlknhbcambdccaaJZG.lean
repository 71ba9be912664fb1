/- address and Objects of the reference. -/
import Derived.Test.YtlknhbcambdccaaJZF
namespace Go.Proofs.Ytlknhbcambdccaa
open Go.RowKit
namespace Sl
open Bu

/-- What a cache of the reference is. -/
abbrev refC (s o kp : Nat) (q : List RS) : Ca := ⟨s, o, kp, q.map (·.1)⟩

theorem ok_bounds {C : Ca} {N : Nat} {L : List Blk} (H : CaOk C N L) {x : Slb} (hx : x ∈ C.sl) : x.pg < 1024 ∧ x.us.length ≤ 128 ∧ 1 ≤ x.us.length := by
  have h2 := st_le H.st _ (H.giv x hx)
  have h3 : x.pg + 2 ^ C.order ≤ 1024 := h2.2
  have := pow_pos2 C.order
  have hc := capa_pos H
  have hl := H.len x hx
  omega

theorem ref_row {w : World} {own : Own?} {r : Nat} {Bp : Addr} {s o kp : Nat} {q : List RS} (h : RefAt w own r Bp s o kp q) {j : Nat} {x : RS} (hx : q[j]? = some x) :
    ∃ g oo cap, w.heap[r]? = some (.cells #[.pointer (some Bp), .int .i64 (s : Int), .int .i64 (o : Int), .int .i64 (kp : Int), .slice (some ⟨g, oo, none⟩) q.length cap] 133 (0, 0)) ∧ q.length ≤ cap ∧ cap ≤ maxLen ∧ g < w.heap.size ∧ w.cell? ⟨g, oo + j * 2, none⟩ = some (.int .i64 (x.1.pg : Int)) ∧ w.cell? ⟨g, oo + j * 2 + 1, none⟩ = some (.slice (some ⟨x.2.1, 0, none⟩) x.1.us.length x.2.2) := by
  obtain ⟨A, cap, h1, h2, h3⟩ := h.cell
  obtain ⟨g, oo, rfl, hg, d0, d1⟩ := h2.at_ j x hx
  exact ⟨g, oo, cap, h1, h2.len, h2.cap, hg, d0, d1⟩
theorem five_cells {w : World} {R : Nat} {x0 x1 x2 x3 x4 : Value} {T : TypeId} (h : w.heap[R]? = some (.cells #[x0, x1, x2, x3, x4] T (0, 0))) :
    w.cell? ⟨R, 0, none⟩ = some x0 ∧ w.cell? ⟨R, 1, none⟩ = some x1 ∧ w.cell? ⟨R, 2, none⟩ = some x2 ∧ w.cell? ⟨R, 3, none⟩ = some x3 ∧ w.cell? ⟨R, 4, none⟩ = some x4 ∧ w.frozen? ⟨R, 4, none⟩ = false :=
  ⟨by rw [cell_of_row _ _ _ _ _ _ h]; rfl, by rw [cell_of_row _ _ _ _ _ _ h]; rfl, by rw [cell_of_row _ _ _ _ _ _ h]; rfl, by rw [cell_of_row _ _ _ _ _ _ h]; rfl, by rw [cell_of_row _ _ _ _ _ _ h]; rfl, by simp [World.frozen?, h]⟩

set_option maxRecDepth 100000 in
set_option maxHeartbeats 2000000 in
theorem addressR_ok (w : World) (own : Own?) (r : Nat) (Bp : Addr) (s o kp : Nat) (q : List RS) (h : RefAt w own r Bp s o kp q) (j i : Nat) (x : RS) (hx : q[j]? = some x) (hpg : x.1.pg ≤ 1024) (hi : i ≤ 1024) (hs : s ≤ 1024) :
    Calls Try.prog 79 #[.pointer (some ⟨r, 0, none⟩), .int .i64 (j : Int), .int .i64 (i : Int)] w fun e w' => e = .returned (.int .i64 ((addrS s x.1 i : Nat) : Int)) ∧ ∃ n, w' = w.drewN n := by
  obtain ⟨g, oo, cap, hc, h1, h2, hg, d0, _⟩ := ref_row h hx
  obtain ⟨_, c1, _, _, c4, _⟩ := five_cells hc
  have hj := (List.getElem?_eq_some_iff.1 hx).1
  unfold maxLen at h2
  obtain ⟨n, hn⟩ : ∃ n, n = q.length := ⟨_, rfl⟩
  obtain ⟨p, hp⟩ : ∃ p, p = x.1.pg := ⟨_, rfl⟩
  have ha : addrS s x.1 i = 64 * p + i * s := by unfold addrS; rw [hp]
  rw [← hn] at c4 hj h1
  rw [← hp] at d0 hpg
  have hm : i * s ≤ 1024 * 1024 := Nat.mul_le_mul hi hs
  have w1 : IntKind.i64.wrap (64 * (p : Int)) = ((64 * p : Nat) : Int) := by rw [IntWalk.i64_in _ (by omega)]; push_cast; rfl
  have w2 : IntKind.i64.wrap ((i : Int) * (s : Int)) = ((i * s : Nat) : Int) := by
    have e : (i : Int) * (s : Int) = ((i * s : Nat) : Int) := by push_cast; rfl
    rw [e, IntWalk.i64_in _ (by omega)]
  obtain ⟨m, hm2⟩ : ∃ m, m = i * s := ⟨_, rfl⟩
  rw [← hm2] at w2 hm ha
  have w3 : IntKind.i64.wrap (((64 * p : Nat) : Int) + ((m : Nat) : Int)) = ((64 * p + m : Nat) : Int) := by rw [IntWalk.i64_in _ (by omega)]; push_cast; rfl
  obtain ⟨p6, hp6⟩ : ∃ p6, p6 = 64 * p := ⟨_, rfl⟩
  rw [← hp6] at w1 w3 ha
  have e0 : (0 : Int) ≤ (j : Int) := by omega
  have e1 : (j : Int) < (n : Int) := by omega
  have HA := Lib.hid ha
  clear h hc hx hn hp ha hm2 hp6
  go_enter Try.func79, Try.ntmps79
  go_wp2_with (fail)
  go_quiet (fail)
  go_wp2_with (fail)
  go_ret
  exact ⟨congrArg (fun z : Nat => Ending.returned (.int .i64 (z : Int))) HA.out.symm, _, rfl⟩

theorem refC_get {s o kp : Nat} {q : List RS} {j : Nat} {x : RS} (hx : q[j]? = some x) : (refC s o kp q).sl[j]? = some x.1 := by show (q.map (·.1))[j]? = _; rw [List.getElem?_map, hx]; rfl
theorem RefAt.below {w w' : World} {own : Own?} {r : Nat} {Bp : Addr} {s o kp : Nat} {q : List RS} (h : RefAt w own r Bp s o kp q) (hf : Fresh own w) (hb : Below w.heap.size w w') : RefAt w' own r Bp s o kp q :=
  h.same hb.size fun k hk hl => ⟨hb.block k hl, rfl⟩

set_option maxRecDepth 100000 in
set_option maxHeartbeats 8000000 in
theorem objectsR_ok (w : World) (own : Own?) (r : Nat) (Bp : Addr) (s o kp N : Nat) (L : List Blk) (q : List RS) (h : RefAt w own r Bp s o kp q) (hf : Fresh own w) (H : CaOk (refC s o kp q) N L) :
    Calls Try.prog 53 #[.pointer (some ⟨r, 0, none⟩)] w fun e w' => (∃ A cp, e = .returned (.slice A (objC (refC s o kp q)).length cp) ∧ Own64 w' w.heap.size A cp (objC (refC s o kp q))) ∧ Below w.heap.size w w' := by
  obtain ⟨n, hn⟩ : ∃ n, n = q.length := ⟨_, rfl⟩
  have hlen := ok_len H
  rw [show (refC s o kp q).sl.length = n by show (q.map (·.1)).length = n; rw [List.length_map, hn]] at hlen
  obtain ⟨A0, c0, hcell, hrow, _⟩ := h.cell
  have hrl := lt_of_heap hcell
  have hn0 := hrow.len
  have hc0 := hrow.cap
  unfold maxLen at hc0
  rw [← hn] at hcell hn0
  have hs : s ≤ 1024 := H.sz.2.1
  obtain ⟨i0, z0, hi0, hz0, hz1, hz2, hz3⟩ := info_open i64_info
  have HX := Lib.hid (And.intro h (And.intro hf (And.intro H (And.intro hn hcell))))
  clear h hf H hn hcell hrow
  go_enter Try.func53, Try.ntmps53
  go_wp2_with (fail)
  go_loopw [3, 4] (fun v i wr => ∃ (k : Nat) (A : Option Addr) (cp : Nat), k ≤ n ∧ i = .int .i64 (k : Int) ∧ v = .slice A (objK (refC s o kp q) k).length cp ∧ Own64 wr w.heap.size A cp (objK (refC s o kp q) k) ∧ Below w.heap.size w wr) (fun _ i _ => n - (intOf i).toNat)
  case atStart => exact ⟨0, none, 0, Nat.zero_le _, rfl, rfl, World.ownsRow_nil _ _ _ _, Below.refl _ _⟩
  case round =>
    obtain ⟨k, A, cp, hk, rfl, rfl, hr, hb⟩ := hrel
    have e0 : (0 : Int) ≤ (k : Int) := by omega
    obtain ⟨_, _, _, _, c4, _⟩ := five_cells ((hb.block r hrl).trans HX.out.2.2.2.2)
    by_cases hlt : k < n
    · have e1 : (k : Int) < (n : Int) := by omega
      have hkk : IntKind.i64.wrap ((k : Int) + 1) = ((k + 1 : Nat) : Int) := by rw [IntWalk.i64_in _ (by omega)]; rfl
      obtain ⟨x, hx⟩ : ∃ x, q[k]? = some x := ⟨_, List.getElem?_eq_getElem (by have := HX.out.2.2.2.1; omega)⟩
      have hbo := ok_bounds HX.out.2.2.1 (List.mem_of_getElem? (refC_get hx))
      obtain ⟨p, hp⟩ : ∃ p, p = x.1.us.length := ⟨_, rfl⟩
      have HR := Lib.hid (And.intro hr (And.intro hb (And.intro hx hp)))
      have hpl : p ≤ 128 := by omega
      have hpg := hbo.1
      clear hr hb hx hbo hp
      go_wp2_with (fail)
      go_loopw [3, 5] (fun v i wi => ∃ (t : Nat) (A : Option Addr) (cp : Nat), t ≤ p ∧ i = .int .i64 (t : Int) ∧ v = .slice A (objK (refC s o kp q) k ++ objP s x.1 t).length cp ∧ Own64 wi w.heap.size A cp (objK (refC s o kp q) k ++ objP s x.1 t) ∧ Below w.heap.size w wi) (fun _ i _ => p - (intOf i).toNat)
      case atStart => exact ⟨0, A, cp, Nat.zero_le _, rfl, by rw [show objP s x.1 0 = [] from rfl, List.append_nil], by rw [show objP s x.1 0 = [] from rfl, List.append_nil]; exact HR.out.1, HR.out.2.1⟩
      case round =>
        obtain ⟨t, A1, cp1, ht, rfl, rfl, hr1, hb1⟩ := hrel
        have e2 : (0 : Int) ≤ (t : Int) := by omega
        have hq1 := HX.out.1.below HX.out.2.1 hb1
        obtain ⟨g, oo, cap, hc, hl1, _, hg, d0, d1⟩ := ref_row hq1 HR.out.2.2.1
        obtain ⟨_, _, _, _, c4', _⟩ := five_cells hc
        rw [← HX.out.2.2.2.1] at c4'
        rw [← HR.out.2.2.2] at d1
        by_cases hlt2 : t < p
        · have e3 : (t : Int) < (p : Int) := by omega
          have htt : IntKind.i64.wrap ((t : Int) + 1) = ((t + 1 : Nat) : Int) := by rw [IntWalk.i64_in _ (by omega)]; rfl
          obtain ⟨v, hv⟩ : ∃ v, x.1.us[t]? = some v := ⟨_, List.getElem?_eq_getElem (by have := HR.out.2.2.2; omega)⟩
          have hu := row_cell ((hq1.used k x HR.out.2.2.1).2) (i := t) (v := .bool v) (by rw [bcells_get, hv]; rfl)
          cases v with
          | false =>
            have HV := Lib.hid (And.intro hr1 (And.intro hb1 (objP_no (size := s) hv)))
            clear hr1 hb1 hq1 hc hv d0
            go_wp2_with (fail)
            go_roundw
            case rel => exact ⟨t + 1, A1, cp1, by omega, by go_num, by rw [HV.out.2.2], by rw [HV.out.2.2]; exact HV.out.1, HV.out.2.1⟩
            case measure => simp [intOf]; omega
          | true =>
            have had := addressR_ok wr own r Bp s o kp q hq1 k t x HR.out.2.2.1 (by omega) (by omega) hs
            obtain ⟨M, hM⟩ : ∃ M, M = objK (refC s o kp q) k ++ objP s x.1 t := ⟨_, rfl⟩
            obtain ⟨ad, hadd⟩ : ∃ ad, ad = addrS s x.1 t := ⟨_, rfl⟩
            have hM1 : objK (refC s o kp q) k ++ objP s x.1 (t + 1) = M ++ [ad] := by rw [objP_yes hv, ← List.append_assoc, hM, hadd]
            have hMl : M.length ≤ 200000 := by
              rw [hM, List.length_append]
              have h1 := objK_len (C := refC s o kp q) (fun y hy => (ok_bounds HX.out.2.2.1 hy).2.1) k (by show k ≤ (q.map (·.1)).length; rw [List.length_map]; have := HX.out.2.2.2.1; omega)
              have h2 := objP_len s x.1 t
              omega
            rw [← hM] at hr1 ⊢
            rw [← hadd] at had
            obtain ⟨ml, hml⟩ : ∃ ml, ml = M.length := ⟨_, rfl⟩
            have hr1' : wr.ownsRow w.heap.size 2 1 (.slice A1 ml cp1) ml (n64 M) := by rw [hml]; exact hr1
            rw [← hml] at hMl ⊢
            have HA := Lib.hid had
            have HV := Lib.hid (And.intro hr1' (And.intro hb1 (And.intro hM1 hml)))
            clear hr1 hr1' hb1 hq1 hc hv d0 had hM hadd hM1 hml
            go_wp2_with (go_at_call 79; fail)
            refine HA.out.mono ?_
            rintro _ W2 ⟨rfl, m, hW2⟩
            have hb2 : Below wr.heap.size wr W2 := by rw [hW2]; exact below_drew wr m
            have hr2 : W2.ownsRow w.heap.size 2 1 (.slice A1 ml cp1) ml (n64 M) := row_keep HV.out.1 fun z _ hz => hb2.block z hz
            have hbw : Below w.heap.size w W2 := below_step HV.out.2.1 hb2 (Nat.le_refl _)
            have H2 := Lib.hid (And.intro hr2 hbw)
            clear hW2 hb2 hr2 hbw
            go_wp2_with (at_builtin; refine wpList_append_lies _ rfl (.tmp 42) (.tmp 47) _ rfl w.heap.size 2 i0 z0 1 8 Try.underlying48 hi0 hz0 hz1 hz2 hz3 (by omega) (.slice A1 ml cp1) ml (n64 M) rfl (H2.out.1.alloc _) ⟨W2.heap.size, 0, none⟩ 1 1 [.int .i64 (ad : Int)] rfl rfl (World.news_of_block (heap_alloc_new _ _)) (by simp [Value.oneCell']) (by omega) (by unfold maxLen; omega) (by omega) (by have := H2.out.2.size; simp; omega) (W2.heap.size + 1) (by simp) ?_
                         intro g1 cap1 w1 hown1 hgrow1 hat1 hlt1
                         have hbw1 : Below w.heap.size w w1 := (H2.out.2.alloc H2.out.2.size _).grown hgrow1 (by have := H2.out.2.size; simp; omega) (fun z hz => (H2.out.1.lt z hz).1)
                         have H1 := Lib.hid (And.intro hown1 hbw1)
                         clear hown1 hgrow1 hat1 hbw1)
            go_roundw
            case rel =>
              refine ⟨t + 1, some ⟨g1, 0, none⟩, cap1, by omega, by go_num, ?_, ?_, H1.out.2⟩
              · rw [HV.out.2.2.1, List.length_append, List.length_singleton, HV.out.2.2.2]
              · rw [HV.out.2.2.1]
                show World.ownsRow _ _ _ _ _ _ _
                rw [List.length_append, List.length_singleton, ← HV.out.2.2.2, show n64 (M ++ [ad]) = n64 M ++ [.int .i64 (ad : Int)] by simp [n64]]
                exact H1.out.1
            case measure => simp [intOf]; omega
        · obtain rfl : t = p := by omega
          have e3 : ¬ ((t : Nat) : Int) < (t : Int) := by omega
          have hs1 : objK (refC s o kp q) (k + 1) = objK (refC s o kp q) k ++ objP s x.1 t := by rw [objK_succ (refC_get HR.out.2.2.1), HR.out.2.2.2]
          have HV := Lib.hid (And.intro hr1 (And.intro hb1 hs1))
          clear hr1 hb1 hq1 hc d0 hs1
          go_wp2_with (fail)
          go_roundw
          case rel => exact ⟨k + 1, A1, cp1, by omega, by go_num, by rw [HV.out.2.2], by rw [HV.out.2.2]; exact HV.out.1, HV.out.2.1⟩
          case measure => simp [intOf]; omega
    · obtain rfl : k = n := by omega
      have e1 : ¬ ((k : Nat) : Int) < (k : Int) := by omega
      have hall : objK (refC s o kp q) k = objC (refC s o kp q) := by
        rw [HX.out.2.2.2.1, show q.length = (refC s o kp q).sl.length by show _ = (q.map (·.1)).length; rw [List.length_map]]
        exact objK_all _
      have HR := Lib.hid (And.intro hr (And.intro hb hall))
      clear hr hb hall
      go_wp2_with (fail)
      go_ret
      exact ⟨⟨A, cp, by rw [← HR.out.2.2]; rfl, by rw [← HR.out.2.2]; exact HR.out.1⟩, HR.out.2.1⟩
end Sl
end Go.Proofs.Ytlknhbcambdccaa
