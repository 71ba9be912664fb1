/- The program's steps: the iterator. -/
import Derived.Test.YtionocafkaemiaaDoorJR1
import Derived.Test.YtionocafkaemiaaDoorK0
import Derived.Sort.QuietTacIn
import Derived.Sort.CutIn
namespace Go.Proofs.YtionocafkaemiaaDoor
open Go.RowKit Go.Lib
namespace Sx
attribute [local go_sem] Oper.semAt_some

theorem spt_next {M : List Sp} {k : Nat} (h : k < M.length) : M.take (k + 1) = M.take k ++ [sp M k] := by rw [List.take_add_one, sp_get h]; rfl
theorem steps_make (A : Option Addr) (n c : Nat) (f t : Int) (w : World) :
    Calls Tryd.prog 44 #[sv A n c, .int .i64 f, .int .i64 t] w fun e w' => e = .returned (.func (.func 73) #[] #[.pointer (some ⟨w.heap.size, 0, none⟩), .pointer (some ⟨w.heap.size + 1, 0, none⟩), .pointer (some ⟨w.heap.size + 2, 0, none⟩)]) ∧
      w' = ((w.alloc (.cells #[.slice A n c] 24)).alloc (.cells #[.int .i64 f] 2)).alloc (.cells #[.int .i64 t] 2) := by
  go_enter Tryd.func44, Tryd.ntmps44
  go_wp2
  go_ret
  exact ⟨rfl, rfl⟩
/-- What the iterator reads. -/
structure StD (A : Option Addr) (c : Nat) (L : List Sm) (f t : Int) (b1 b2 b3 : Nat) (W : World) : Prop where
  l1 : b1 < W.heap.size
  l2 : b2 < W.heap.size
  l3 : b3 < W.heap.size
  c1 : W.cell? ⟨b1, 0, none⟩ = some (.slice A L.length c)
  c2 : W.cell? ⟨b2, 0, none⟩ = some (.int .i64 f)
  c3 : W.cell? ⟨b3, 0, none⟩ = some (.int .i64 t)
  row : SAt W A c L
set_option maxRecDepth 100000 in
set_option maxHeartbeats 4000000 in
theorem stepseq (n : Nat) (hn : 2 ≤ n) (b1 b2 b3 : Nat) (A : Option Addr) (c : Nat) (L : List Sm) (f t : Int) (hcov : Cov L f t) :
    SeqZ Fence.wide n Tryd.prog 73 #[.pointer (some ⟨b1, 0, none⟩), .pointer (some ⟨b2, 0, none⟩), .pointer (some ⟨b3, 0, none⟩)] (fun x : Sp => #[.agg #[.int .i64 x.f, .int .i64 x.v], .int .i64 (x.t - x.f)])
      (StD A c L f t b1 b2 b3) (fun _ => True) (fun k => k = b1 ∨ k = b2 ∨ k = b3 ∨ ∃ o, A = some ⟨k, o, none⟩)
      (fun xs => xs = stepsV L f t) (fun pre => ∃ k, k < (stepsV L f t).length ∧ pre = (stepsV L f t).take (k + 1)) (fun pre x => ∃ k, k < (stepsV L f t).length ∧ x = sp (stepsV L f t) k ∧ pre = (stepsV L f t).take k) := by
  intro l J Jx own0 W hD hR hE hf hFJ hFJx hY h0
  obtain ⟨m, hm⟩ : ∃ m, m = upto L f - 1 := ⟨_, rfl⟩
  have hidx : idx L f = (m : Int) := by unfold idx; have := hcov.cov; omega
  have hst := fun k hk => step_at hcov (k := k) hk
  rw [← hm] at hst
  have hix := index_ok A c L f W hD.row hcov.ok
  rw [hidx] at hix
  have HIX := Lib.hid ((callsIn_wide (n := n - 1)).2 hix)
  have hlen := hcov.ok.len
  have hos := hcov.ok
  have hokp := steps_ok hcov.ok (f := f) (t := t)
  have hf0 := hcov.f0
  have ht1 := hcov.t1
  have ho1 := hR b1 (.inl rfl)
  have ho2 := hR b2 (.inr (.inl rfl))
  have ho3 := hR b3 (.inr (.inr (.inl rfl)))
  have hoA := fun g o h => hR g (.inr (.inr (.inr ⟨o, h⟩)))
  have d1 := hD.c1
  have d2 := hD.c2
  have d3 := hD.c3
  have hcm := hD.row.2.1
  have hlc := hD.row.1
  unfold maxLen at hcm
  have HD := Lib.hid hD
  have HY := Lib.hid hY
  have HF := Lib.hid (And.intro hFJ (And.intro h0 (And.intro hst (And.intro ho1 (And.intro ho2 (And.intro ho3 (And.intro hoA (And.intro hos hokp))))))))
  clear hY hR hE hst ho1 ho2 ho3 hoA hD hFJ h0 hix hcov hos hokp
  generalize hM : stepsV L f t = M at *
  have hfn : Fence.wide.fn 63 := trivial
  have hdp : Fence.wide.depth.isSome = false := rfl
  have hn1 : 1 ≤ n := by omega
  refine callsIn_of_wp Tryd.func73 rfl trivial ?_ rfl
  simp only [Tryd.ntmps73, List.size_toArray, List.length_cons, List.length_nil, Nat.reduceAdd, Nat.reduceSub, Array.replicate_succ, Array.replicate_zero, List.push_toArray, List.append_toArray, List.nil_append, List.cons_append]
  gi_wp2_with (gi_at_call 63; fail)
  refine HIX.out.mono ?_
  rintro _ w1 ⟨rfl, hb1⟩
  have hJ1 := HF.out.1 own0 [] W w1 HF.out.2.1 hb1.size (fun k _ hk => hb1.block k hk)
  have hK1 := Keeps.of_below own0 hb1
  have H1 := Lib.hid (And.intro hJ1 hK1)
  clear hb1 hJ1 hK1
  gi_wp2
  gi_loopw [5] (fun i wr => ∃ (k : Nat) (ow : Ow), k ≤ M.length ∧ i = .int .i64 ((m + k : Nat) : Int) ∧ J ow (M.take k) wr ∧ Keeps own0 ow W wr) (fun i _ => L.length + 1 - (intOf i).toNat)
  case atStart => exact ⟨0, own0, Nat.zero_le _, by rw [hm]; rfl, H1.out.1, H1.out.2⟩
  case round =>
    obtain ⟨k, ow, hk, rfl, hJ, hK⟩ := hrel
    have s1 : wr.cell? ⟨b1, 0, none⟩ = some (.slice A L.length c) := (World.cell?_of_block (a := ⟨b1, 0, none⟩) (hK.block b1 HD.out.l1 HF.out.2.2.2.1)).trans d1
    have s2 : wr.cell? ⟨b2, 0, none⟩ = some (.int .i64 f) := (World.cell?_of_block (a := ⟨b2, 0, none⟩) (hK.block b2 HD.out.l2 HF.out.2.2.2.2.1)).trans d2
    have s3 : wr.cell? ⟨b3, 0, none⟩ = some (.int .i64 t) := (World.cell?_of_block (a := ⟨b3, 0, none⟩) (hK.block b3 HD.out.l3 HF.out.2.2.2.2.2.1)).trans d3
    obtain ⟨hiff, hat⟩ := HF.out.2.2.1 k hk
    obtain ⟨i, hi⟩ : ∃ i, i = m + k := ⟨_, rfl⟩
    rw [← hi] at hiff hat ⊢
    have hpos : (0 : Int) ≤ (i : Int) := by omega
    have HJ := Lib.hid (And.intro hJ (And.intro hK hi))
    clear hJ hK hi
    by_cases hlt : i < L.length
    · have hlti : (i : Int) < (L.length : Int) := by omega
      have hg1 : decide ((i : Int) < (L.length : Int)) = true := by simp; omega
      obtain ⟨g, o, rfl, hg, e0', e1'⟩ := HD.out.row.s2 hlt
      have hog := HF.out.2.2.2.2.2.2.1 g o rfl
      have e0 := (World.cell?_of_block (a := ⟨g, o + i * 2, none⟩) (HJ.out.2.1.block g hg hog)).trans e0'
      have e1 := (World.cell?_of_block (a := ⟨g, o + i * 2 + 1, none⟩) (HJ.out.2.1.block g hg hog)).trans e1'
      have hnxt : i + 1 < L.length → wr.cell? ⟨g, o + (i + 1) * 2, none⟩ = some (.int .i64 (sm L (i + 1)).a) ∧ nxtI L t i = min t (sm L (i + 1)).a := fun h => by
        obtain ⟨g', o', e, _, e0, _⟩ := HD.out.row.s2 h
        injection e with e; injection e with e1 e2 _
        subst e1; subst e2
        exact ⟨(World.cell?_of_block (a := ⟨g, o + (i + 1) * 2, none⟩) (HJ.out.2.1.block g hg hog)).trans e0, by unfold nxtI; rw [if_pos h]⟩
      have hend : ¬ i + 1 < L.length → nxtI L t i = t := fun h => by unfold nxtI; rw [if_neg h]
      have hox := (HF.out.2.2.2.2.2.2.2.1.ok _ (sm_mem hlt))
      clear e0' e1'
      generalize nxtI L t i = nx at *
      generalize (sm L (i + 1)).a = na at *
      generalize sm L i = x at *
      obtain ⟨xa, xv⟩ := x
      dsimp only at e0 e1 hiff hat
      by_cases hat2 : xa < t
      · have hg2 : decide (xa < t) = true := by simp; omega
        have hkM := hiff.2 ⟨hlt, hat2⟩
        have hsp := hat hkM
        have HS := Lib.hid (And.intro hkM (And.intro hsp (And.intro hnxt hend)))
        clear hiff hat hkM hsp hnxt hend
        obtain ⟨mx, hmx⟩ : ∃ mx, mx = max xa f := ⟨_, rfl⟩
        have qmx : (if xa < f then f else xa) = mx := by rw [hmx]; split <;> omega
        have HMX := Lib.hid hmx
        clear hmx
        gi_wp2
        gi_quiet_th (fail)
        obtain ⟨V, hV⟩ : ∃ V, V = wr.drewN nq := ⟨_, rfl⟩
        replace s1 : (wr.drewN nq).cell? ⟨b1, 0, none⟩ = some (.slice (some ⟨g, o, none⟩) L.length c) := s1
        replace s2 : (wr.drewN nq).cell? ⟨b2, 0, none⟩ = some (.int .i64 f) := s2
        replace s3 : (wr.drewN nq).cell? ⟨b3, 0, none⟩ = some (.int .i64 t) := s3
        replace e0 : (wr.drewN nq).cell? ⟨g, o + i * 2, none⟩ = some (.int .i64 xa) := e0
        replace e1 : (wr.drewN nq).cell? ⟨g, o + i * 2 + 1, none⟩ = some (.int .i64 xv) := e1
        rw [← hV] at s1 s2 s3 e0 e1 ⊢
        have HV := Lib.hid (And.intro hV (And.intro s1 (And.intro s2 s3)))
        clear hV
        gi_upto_region 4 with (fail)
        obtain ⟨u, hu⟩ : ∃ u, u = V.heap.size := ⟨_, rfl⟩
        obtain ⟨V1, hV1⟩ : ∃ V1, V1 = V.alloc (.cells #[.int .i64 xa, .int .i64 xv] 49) := ⟨_, rfl⟩
        have hb1 : Below V.heap.size V V1 := by rw [hV1]; exact below_box V _
        have hx1 : V1.heap[u]? = some (.cells #[.int .i64 xa, .int .i64 xv] 49 (0, 0)) := by rw [hV1, hu]; exact new_at V _
        rw [← hV1, ← hu]
        replace s1 := cell_keep2 hb1 s1
        replace s2 := cell_keep2 hb1 s2
        replace s3 := cell_keep2 hb1 s3
        obtain ⟨x0, x1⟩ := two_at hx1
        have f0 : V1.frozen? ⟨u, 0, none⟩ = false := by simp [World.frozen?, hx1]
        have H1 := Lib.hid (And.intro hu (And.intro hb1 hx1))
        clear hV1 hb1 hx1 hu e0 e1
        gi_upto_region 5 with (fail)
        obtain ⟨V2, hV2⟩ : ∃ V2, V2 = V1.setCell ⟨u, 0, none⟩ (.int .i64 mx) := ⟨_, rfl⟩
        have hb2 : Below V.heap.size V V2 := by rw [hV2]; exact H1.out.2.1.setCell (by rw [H1.out.1]; exact Nat.le_refl _) _
        have hx2 : V2.heap[u]? = some (.cells #[.int .i64 mx, .int .i64 xv] 49 (0, 0)) := by rw [hV2, setCell_at _ _ _ _ _ _ H1.out.2.2]; rfl
        rw [← hV2]
        clear s1 s2 s3 x0 x1 f0 hV2
        have s1 := cell_keep2 hb2 HV.out.2.1
        have s2 := cell_keep2 hb2 HV.out.2.2.1
        have s3 := cell_keep2 hb2 HV.out.2.2.2
        obtain ⟨x0, x1⟩ := two_at hx2
        have hwb : Below wr.heap.size wr V2 := by
          have h1 : Below wr.heap.size wr V := by rw [HV.out.1]; exact below_drewN (Below.refl _ _) nq
          exact h1.trans (hb2.mono h1.size)
        have hkv := HJ.out.2.1.trans (Keeps.of_below ow hwb)
        have hJv := HF.out.1 ow _ wr V2 HJ.out.1 hwb.size (fun y _ hy => hwb.block y hy)
        have hp := HF.out.2.2.2.2.2.2.2.2 _ (sp_mem HS.out.1)
        have hsp := HS.out.2.1
        rw [← HMX.out] at hsp
        rw [hsp] at hp
        have p1 := hp.f0
        have p2 := hp.ft
        have p3 := hp.t1
        dsimp only at p1 p2 p3
        obtain ⟨fn, tmps, assign, body, hy, hRd⟩ := HY.out ow (M.take k) ⟨mx, nx, xv⟩ V2 hJv (hf.keeps hkv) ⟨k, HS.out.1, hsp.symm, rfl⟩
        have htk := spt_next HS.out.1
        rw [hsp] at htk
        have HR := Lib.hid (And.intro hRd (And.intro hkv htk))
        have HE := Lib.hid (And.intro hwb hb2)
        clear hRd hkv hJv hp hsp hb2 hx2 htk
        by_cases hnx : i + 1 < L.length
        · obtain ⟨e0, hnn⟩ := HS.out.2.2.1 hnx
          replace e0 := cell_keep2 HE.out.1 e0
          have hq : (i : Int) + 1 < (L.length : Int) := by omega
          have qmn : (if na < t then na else t) = nx := by rw [hnn]; split <;> omega
          have qa : (0 : Int) ≤ (i : Int) + 1 := by omega
          have qb : ((i : Int) + 1).toNat = i + 1 := by omega
          clear hnn hwb
          gi_wp2
          refine HR.out.1.mono ?_
          rintro e W3 ⟨own3, hK3, (⟨rfl, hJ3⟩ | ⟨rfl, hJ3⟩)⟩
          · have H3 := Lib.hid (And.intro hJ3 hK3)
            clear hJ3 hK3
            gi_wp2
            go_roundw
            case rel => exact ⟨k + 1, own3, HS.out.1, by have := HJ.out.2.2; go_num, by rw [HR.out.2.2]; exact H3.out.1, HR.out.2.1.trans H3.out.2⟩
            case measure => simp [intOf]; omega
          · have H3 := Lib.hid (And.intro hJ3 hK3)
            clear hJ3 hK3
            gi_wp2
            refine bodyPost_ret (results_none rfl _ _ _) rfl ?_
            exact ⟨⟨_, rfl⟩, own3, HR.out.2.1.trans H3.out.2, .inr ⟨_, ⟨k, HS.out.1, rfl⟩, by rw [HR.out.2.2]; exact H3.out.1⟩⟩
        · have hnn := HS.out.2.2.2 hnx
          have hq : ¬ (i : Int) + 1 < (L.length : Int) := by omega
          subst hnn
          clear hwb
          gi_wp2
          refine HR.out.1.mono ?_
          rintro e W3 ⟨own3, hK3, (⟨rfl, hJ3⟩ | ⟨rfl, hJ3⟩)⟩
          · have H3 := Lib.hid (And.intro hJ3 hK3)
            clear hJ3 hK3
            gi_wp2
            go_roundw
            case rel => exact ⟨k + 1, own3, HS.out.1, by have := HJ.out.2.2; go_num, by rw [HR.out.2.2]; exact H3.out.1, HR.out.2.1.trans H3.out.2⟩
            case measure => simp [intOf]; omega
          · have H3 := Lib.hid (And.intro hJ3 hK3)
            clear hJ3 hK3
            gi_wp2
            refine bodyPost_ret (results_none rfl _ _ _) rfl ?_
            exact ⟨⟨_, rfl⟩, own3, HR.out.2.1.trans H3.out.2, .inr ⟨_, ⟨k, HS.out.1, rfl⟩, by rw [HR.out.2.2]; exact H3.out.1⟩⟩
      · have hg2 : decide (xa < t) = false := by simp; omega
        obtain rfl : k = M.length := by
          rcases Nat.lt_or_ge k M.length with h | h
          · exact absurd (hiff.1 h).2 hat2
          · omega
        clear hiff hat hnxt hend
        gi_wp2
        gi_quiet_th (fail)
        gi_wp2
        go_end0
        exact ⟨⟨_, rfl⟩, ow, HJ.out.2.1.trans (Keeps.of_below ow (below_drewN (Below.refl _ _) nq)), .inl ⟨_, rfl, by have := HF.out.1 ow _ wr (wr.drewN nq) HJ.out.1 (Nat.le_refl _) (fun _ _ _ => rfl); rwa [List.take_length] at this⟩⟩
    · have hg1 : decide ((i : Int) < (L.length : Int)) = false := by simp; omega
      obtain rfl : k = M.length := by
        rcases Nat.lt_or_ge k M.length with h | h
        · exact absurd (hiff.1 h).1 hlt
        · omega
      clear hiff hat
      gi_wp2
      gi_quiet_th (fail)
      gi_wp2
      go_end0
      exact ⟨⟨_, rfl⟩, ow, HJ.out.2.1.trans (Keeps.of_below ow (below_drewN (Below.refl _ _) nq)), .inl ⟨_, rfl, by have := HF.out.1 ow _ wr (wr.drewN nq) HJ.out.1 (Nat.le_refl _) (fun _ _ _ => rfl); rwa [List.take_length] at this⟩⟩
end Sx
end Go.Proofs.YtionocafkaemiaaDoor
