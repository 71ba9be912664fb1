/- give: an empty slab goes back to the allocator. slices.Backward over the slabs. Free of an allocated object where a slab is given back. Free of a cache where no slab has the address. -/
import Derived.Test.YtlknhbcambdccaaK15
import Derived.Test.YtlknhbcambdccaaK19
import Derived.Test.YtlknhbcambdccaaK17
import Derived.Deep.RegionWith
import Derived.Test.YtlknhbcambdccaaK18
import Derived.Test.YtlknhbcambdccaaK4
import Derived.Test.YtlknhbcambdccaaK16
namespace Go.Proofs.Ytlknhbcambdccaa
open Go.RowKit
namespace Sl
open Bu

theorem cache_del {w w' : World} {own : Own?} {c b k : Nat} {C : Ca} {e e' : Nat} {A : Option Addr} {cap : Nat} {R : List Nat} (h : CacheAt w own c b C e A cap R)
    (hc' : w'.heap[c]? = some (.cells #[.pointer (some ⟨b, 0, none⟩), .int .i64 (C.size : Int), .int .i64 (C.order : Int), .int .i64 (C.keep : Int), .slice A (R.eraseIdx k).length cap, .int .i64 (e' : Int)] 78 (0, 0)))
    (hr' : w'.ownsRow 0 97 1 (.slice A (R.eraseIdx k).length cap) (R.eraseIdx k).length (ptrs (R.eraseIdx k)))
    (hk : ∀ z, own z ≠ none → z ≠ c → z ≠ b → A.map (·.block) ≠ some z → z < w.heap.size → w'.heap[z]? = w.heap[z]?) : CacheAt w' own c b { C with sl := C.sl.eraseIdx k } e' A cap (R.eraseIdx k) := by
  refine ⟨h.ownC, h.ownB, hc', hr', h.ownG, ?_, (List.eraseIdx_sublist R k).nodup h.nd, fun i p x hp hx => ?_⟩
  · show _ = (C.sl.eraseIdx k).length
    rw [List.length_eraseIdx, List.length_eraseIdx, h.len]
  · have hx : (C.sl.eraseIdx k)[i]? = some x := hx
    rw [List.getElem?_eraseIdx] at hp hx
    have old : ∀ j : Nat, R[j]? = some p → C.sl[j]? = some x → ∃ u ucap, SlabAt w' own p u x.many ucap x := by
      intro j hj hy
      obtain ⟨u, uc, hs⟩ := h.slab j p x hj hy
      refine ⟨u, uc, hs.same fun z hz hl => ⟨?_, rfl⟩⟩
      rcases hz with rfl | rfl
      · refine hk _ (by rw [hs.ownP]; simp) (fun e2 => ?_) (fun e2 => ?_) (fun e2 => ?_) hl
        · have := hs.ownP; rw [e2, h.ownC] at this; cases this
        · have := hs.ownP; rw [e2, h.ownB] at this; cases this
        · have := h.ownG _ e2; rw [hs.ownP] at this; cases this
      · refine hk _ (by rw [hs.ownU]; simp) (fun e2 => ?_) (fun e2 => ?_) (fun e2 => ?_) hl
        · have := hs.ownU; rw [e2, h.ownC] at this; injection this with this; omega
        · have := hs.ownU; rw [e2, h.ownB] at this; injection this with this; omega
        · have := h.ownG _ e2; rw [hs.ownU] at this; injection this with this; omega
    split at hp
    · next hlt => rw [if_pos hlt] at hx; exact old i hp hx
    · next hlt => rw [if_neg hlt] at hx; exact old (i + 1) hp hx

/-- What give leaves. -/
def GiveR' (own : Own?) (c b k : Nat) (C : Ca) (e' : Nat) (A : Option Addr) (cap : Nat) (R : List Nat) (N : Nat) (L : List Blk) (pg : Nat) (w : World) (e0 : Ending) (w' : World) : Prop :=
  e0 = .returned (.tuple #[]) ∧ CacheAt w' own c b { C with sl := C.sl.eraseIdx k } e' A cap (R.eraseIdx k) ∧ BuL w' b N (delB L (pg, C.order)) ∧ Keeps own own w w'

set_option maxRecDepth 100000 in
set_option maxHeartbeats 8000000 in
theorem give_ok (w : World) (own : Own?) (c b k : Nat) (C : Ca) (e' : Nat) (A : Option Addr) (cap : Nat) (R : List Nat) (N : Nat) (L : List Blk) (x : Slb) (hC : CacheAt w own c b C (e' + 1) A cap R) (hB : BuL w b N L) (hx : C.sl[k]? = some x) (hgiv : (x.pg, C.order) ∈ L) (he : e' ≤ 1024) :
    Calls Try.prog 37 #[.pointer (some ⟨c, 0, none⟩), .int .i64 (k : Int)] w fun e w' => GiveR' own c b k C e' A cap R N L x.pg w e w' := by
  have hkl : k < C.sl.length := (List.getElem?_eq_some_iff.1 hx).1
  have hkR : k < R.length := by rw [hC.len]; exact hkl
  obtain ⟨p, hp⟩ : ∃ p, R[k]? = some p := ⟨_, List.getElem?_eq_getElem hkR⟩
  obtain ⟨u, uc, hs⟩ := hC.slab k p x hp hx
  obtain ⟨g, hA⟩ : ∃ g, A = some ⟨g, 0, none⟩ := by
    rcases hC.row.2 with ⟨_, h0⟩ | ⟨g, cp, cur, hv, _⟩
    · omega
    · injection hv with hv; exact ⟨g, hv⟩
  subst hA
  have hcb : c ≠ b := fun e => by have := hC.ownC; rw [e, hC.ownB] at this; cases this
  have hgo := hC.ownG g rfl
  have hgb : g ≠ b := fun e => by rw [e, hC.ownB] at hgo; cases hgo
  have hgc : g ≠ c := fun e => by rw [e, hC.ownC] at hgo; cases hgo
  have hfree : Calls Try.prog 71 #[.pointer (some ⟨b, 0, none⟩), .int .i64 (x.pg : Int), .int .i64 (C.order : Int)] (World.drew w) fun e w' => e = .returned (.int .i64 0) ∧ BuL w' b N (delB L (x.pg, C.order)) ∧ Grow1 b w w' := by
    refine (freeL_ok (World.drew w) b N L (x.pg, C.order) (hB.keep rfl) (hB.2.inb _ hgiv)).mono ?_
    rintro e w' ⟨hG, ⟨_, h1, h2⟩ | ⟨h1, _⟩⟩
    · exact ⟨h1, h2, hG.os, hG.tape, hG.output, hG.size, hG.block⟩
    · exact absurd hgiv h1
  obtain ⟨hcap1, hcap2, _⟩ := row_caps hC.row
  unfold maxLen at hcap2
  obtain ⟨n, hn⟩ : ∃ n, n = R.length := ⟨_, rfl⟩
  obtain ⟨c0, c1, c2, c3, c4, c5, _, _⟩ := six_cells hC.cell
  have p0 := (three_cells hs.cell).1
  have r0 := row_cell hC.row (i := k) (v := .pointer (some ⟨p, 0, none⟩)) (by unfold ptrs; rw [List.getElem?_map, hp]; rfl)
  have e0 : (0 : Int) ≤ (k : Int) := by omega
  have e1 : (k : Int) < (n : Int) := by omega
  have hkk : IntKind.i64.wrap ((k : Int) + 1) = ((k + 1 : Nat) : Int) := by rw [IntWalk.i64_in _ (by omega)]; rfl
  have hee : IntKind.i64.wrap (((e' + 1 : Nat) : Int) - 1) = (e' : Int) := by rw [IntWalk.i64_in _ (by omega)]; omega
  have HF := Lib.hid hfree
  rw [← hn] at c4
  have hcapn : n ≤ cap := by omega
  have HX := Lib.hid (And.intro hC (And.intro hn (And.intro hkR (And.intro hcb (And.intro hgb hgc)))))
  clear hfree hC hB hx hgiv hs hp hn hkR hkl hcap1 hgo
  go_enter Try.func37, Try.ntmps37
  go_upto_region 0 with (fail)
  go_cut [22] from 4 to 23 (fun _ wx => BuL wx b N (delB L (x.pg, C.order)) ∧ Grow1 b w wx)
  case first =>
    go_region_with (go_at_call 71; refine HF.out.mono ?_; rintro e w5 ⟨rfl, hB5, hg5⟩; have H5 := Lib.hid (And.intro hB5 hg5); clear hB5 hg5)
    all_goals
      go_wp2_with (fail)
      go_meet
      exact ⟨H5.out.1, H5.out.2.os, H5.out.2.tape, H5.out.2.output, H5.out.2.size, H5.out.2.block⟩
  case rest =>
    obtain ⟨hBc, hGc⟩ := hcut
    obtain ⟨hC, hn, hkR, hcb, hgb, hgc⟩ := HX.out
    have nC := heap_grow hGc hcb hC.cell
    have hgl : g < w.heap.size := (hC.row.lt g rfl).2
    have nR : wc.ownsRow 0 97 1 (.slice (some ⟨g, 0, none⟩) R.length cap) R.length (ptrs R) := row_same hC.row fun z hz => by
      have hz : g = z := by injection hz
      rw [← hz]
      exact hGc.block g hgl hgb
    have hdel := delete_ok wc g cap k R nR hkR
    obtain ⟨m, hm⟩ : ∃ m, m = (R.eraseIdx k).length := ⟨_, rfl⟩
    rw [← hm, ← hn] at hdel
    rw [← hn] at nC
    have HDl := Lib.hid hdel
    have HM := Lib.hid (And.intro nC (And.intro nR (And.intro hm (And.intro hgl (And.intro hBc hGc)))))
    obtain ⟨k0, k1, k2, k3, k4, k5, _, _⟩ := six_cells nC
    clear hdel nR hm hBc hGc nC hC hn hkR hcb hgb hgc c0 c1 c2 c3 c4 c5 p0 r0 hgl
    go_wp2_with (go_at_call 72; fail)
    refine HDl.out.mono ?_
    rintro e w6 ⟨rfl, hr6, ho6⟩
    have hcg : c ≠ g := fun e => HX.out.2.2.2.2.2 e.symm
    have nC6 := (ho6.block c (fun e => hcg (by injection e with e; exact e.symm))).trans HM.out.1
    obtain ⟨j0, j1, j2, j3, j4, j5, f4, f5⟩ := six_cells nC6
    have H6 := Lib.hid (And.intro hr6 (And.intro ho6 nC6))
    clear hr6 ho6 nC6 k0 k1 k2 k3 k4 k5
    go_wp2_with (fail)
    go_end0
    obtain ⟨hr6, ho6, nC6⟩ := H6.out
    obtain ⟨nC, nR, hm, hgl, hBc, hGc⟩ := HM.out
    obtain ⟨hC, hn, hkR, hcb, hgb, hgc⟩ := HX.out
    subst hm
    have hfar : ∀ z, z ≠ c → z ≠ g → ((w6.setCell ⟨c, 4, none⟩ (.slice (some ⟨g, 0, none⟩) (R.eraseIdx k).length cap)).setCell ⟨c, 5, none⟩ (.int .i64 (e' : Int))).heap[z]? = wc.heap[z]? := fun z h1 h2 => (setCell_far _ _ _ _ h1).trans ((setCell_far _ _ _ _ h1).trans (ho6.block z (fun e => h2 (by injection e with e; exact e.symm))))
    have hsz : ((w6.setCell ⟨c, 4, none⟩ (.slice (some ⟨g, 0, none⟩) (R.eraseIdx k).length cap)).setCell ⟨c, 5, none⟩ (.int .i64 (e' : Int))).heap.size = wc.heap.size := by rw [setCell_size, setCell_size]; exact ho6.size
    refine ⟨rfl, cache_del hC ?_ ?_ ?_, hBc.keep (hfar b hcb.symm hgb.symm), ⟨?_, ?_, ?_, ?_, ?_, fun _ _ => rfl, fun _ h => .inl h⟩⟩
    · exact setCell_at (w6.setCell ⟨c, 4, none⟩ (.slice (some ⟨g, 0, none⟩) (R.eraseIdx k).length cap)) c 5 _ _ _ (setCell_at w6 c 4 _ _ _ nC6)
    · exact row_same hr6 fun z hz => by
        have hz : g = z := by injection hz
        rw [← hz]
        exact (setCell_far _ _ _ _ hgc).trans (setCell_far _ _ _ _ hgc)
    · exact fun z _ h1 h2 h3 hl => (hfar z h1 (fun e => h3 (by rw [e]; rfl))).trans (hGc.block z hl h2)
    · exact ho6.os.trans hGc.os
    · exact ho6.tape.trans hGc.tape
    · exact ho6.output.trans hGc.output
    · rw [hsz]; exact hGc.size
    · intro z hl ho
      exact (hfar z (fun e => by rw [e, hC.ownC] at ho; cases ho) (fun e => by rw [e, hC.ownG g rfl] at ho; cases ho)).trans (hGc.block z hl (fun e => by rw [e, hC.ownB] at ho; cases ho))
end Sl
end Go.Proofs.Ytlknhbcambdccaa
namespace Go.Proofs.Ytlknhbcambdccaa
open Go.RowKit Go.Shelf
namespace Bu
attribute [local go_sem] Oper.semAt_some

def down (n k : Nat) : List Nat := (List.range k).map fun j => n - 1 - j
theorem down_next (n k : Nat) : down n (k + 1) = down n k ++ [n - 1 - k] := by unfold down; rw [List.range_succ, List.map_append]; rfl
theorem down_len (n k : Nat) : (down n k).length = k := by simp [down]

/-- The row that is ranged over. -/
def SlRow (g : Nat) (R : List Nat) (W : World) : Prop := ∀ (i p : Nat), R[i]? = some p → W.cell? ⟨g, i, none⟩ = some (.pointer (some ⟨p, 0, none⟩))

theorem backward_ok (w : World) (A : Option Addr) (n cap : Nat) :
    Calls Try.prog 36 #[.slice A n cap] w fun e w' => e = .returned (.func (.func 70) #[] #[.pointer (some ⟨w.heap.size, 0, none⟩)]) ∧
      w' = w.alloc (.cells #[.slice A n cap] 76) := by
  go_enter Try.func36, Try.ntmps36
  go_wp2
  go_ret
  exact ⟨rfl, rfl⟩

set_option maxRecDepth 100000 in
set_option maxHeartbeats 2000000 in
theorem backseq (n : Nat) (hn : 2 ≤ n) (b1 g cap : Nat) (R : List Nat) (hR0 : R.length ≤ 1000000) (hcp : R.length ≤ cap) :
    SeqZ Fence.wide n Try.prog 70 #[.pointer (some ⟨b1, 0, none⟩)] (fun i : Nat => #[.int .i64 (i : Int), .pointer (some ⟨R.getD i 0, 0, none⟩)])
      (fun W => b1 < W.heap.size ∧ W.cell? ⟨b1, 0, none⟩ = some (.slice (some ⟨g, 0, none⟩) R.length cap)) (SlRow g R)
      (fun k => k = b1) (fun xs => xs = down R.length R.length) (fun pre => ∃ k, k < R.length ∧ pre = down R.length (k + 1)) (fun pre x => ∃ k, k < R.length ∧ x = R.length - 1 - k ∧ pre = down R.length k) := by
  intro l J Jx own0 W ⟨hbs, hD⟩ hR hE hf hFJ hFJx hY h0
  have HY := Lib.hid hY
  have HE := Lib.hid hE
  have hR1 := hR b1 rfl
  have HOR := Lib.hid hR1
  clear hY hR hE hR1
  obtain ⟨N, hN⟩ : ∃ N, N = R.length := ⟨_, rfl⟩
  rw [← hN] at hD hR0 hcp ⊢
  have HN := Lib.hid hN
  clear hN
  have e9 : IntKind.i64.wrap ((N : Int) - 1) = (N : Int) - 1 := IntWalk.i64_in _ (by omega)
  have hdp : Fence.wide.depth.isSome = false := rfl
  have hn1 : 1 ≤ n := by omega
  refine callsIn_of_wp Try.func70 rfl trivial ?_ rfl
  simp only [Try.ntmps70, List.size_toArray, List.length_cons, List.length_nil, Nat.reduceAdd, Nat.reduceSub, Array.replicate_succ, Array.replicate_zero, List.push_toArray, List.append_toArray, List.nil_append, List.cons_append]
  gi_wp2
  gi_loopw [3] (fun v wr => ∃ (k : Nat) (z : Int) (own : Ow), k ≤ N ∧ z + (k : Int) + 1 = (N : Int) ∧ v = .int .i64 z ∧ J own (down N k) wr ∧ Keeps own0 own W wr) (fun v _ => (intOf v + 1).toNat)
  case atStart => exact ⟨0, (N : Int) - 1, own0, Nat.zero_le _, by omega, rfl, h0, Keeps.refl _ _⟩
  case round =>
    obtain ⟨k, z, own, hk, hz, rfl, hJ, hK⟩ := hrel
    have hc' : wr.cell? ⟨b1, 0, none⟩ = some (.slice (some ⟨g, 0, none⟩) N cap) := (World.cell?_of_block (a := ⟨b1, 0, none⟩) (hK.block b1 hbs HOR.out)).trans hD
    by_cases hlt : k < N
    · obtain ⟨i, rfl⟩ : ∃ i : Nat, z = (i : Int) := ⟨z.toNat, by omega⟩
      have hi : i = N - 1 - k := by omega
      have e0 : (0 : Int) ≤ (i : Int) := by omega
      have e1 : (i : Int) < (N : Int) := by omega
      have hkk : IntKind.i64.wrap ((i : Int) - 1) = (i : Int) - 1 := IntWalk.i64_in _ (by omega)
      obtain ⟨p, hp⟩ : ∃ p, R[i]? = some p := ⟨_, List.getElem?_eq_getElem (by have := HN.out; omega)⟩
      have hrow := HE.out own _ wr hJ i p hp
      have hgd : R.getD i 0 = p := by rw [List.getD_eq_getElem?_getD, hp]; rfl
      obtain ⟨fn, tmps, assign, body, hy, hRd⟩ := HY.out own (down N k) i wr hJ (hf.keeps hK) ⟨k, by have := HN.out; omega, by rw [← HN.out]; exact hi, by rw [← HN.out]⟩
      rw [hgd] at hy
      have hnx : down N (k + 1) = down N k ++ [i] := by rw [down_next, hi]
      have HJ := Lib.hid (And.intro hJ (And.intro hK (And.intro hnx hlt)))
      clear hJ hK hnx hp hgd hi
      gi_wp2
      refine hRd.mono ?_
      rintro e W3 ⟨own3, hK3, (⟨rfl, hJ3⟩ | ⟨rfl, hJ3⟩)⟩
      · have H3 := Lib.hid (And.intro hJ3 hK3)
        clear hJ3 hK3
        gi_wp2
        go_roundw
        case rel => exact ⟨k + 1, (i : Int) - 1, own3, by omega, by omega, rfl, by rw [HJ.out.2.2.1]; exact H3.out.1, HJ.out.2.1.trans H3.out.2⟩
        case measure => simp [intOf]
      · have H3 := Lib.hid (And.intro hJ3 hK3)
        clear hJ3 hK3
        gi_wp2
        refine bodyPost_ret (results_none rfl _ _ _) rfl ?_
        exact ⟨⟨_, rfl⟩, own3, HJ.out.2.1.trans H3.out.2, .inr ⟨_, ⟨k, HJ.out.2.2.2, rfl⟩, by rw [HJ.out.2.2.1]; exact H3.out.1⟩⟩
    · obtain rfl : k = N := by omega
      have e1 : z = -1 := by omega
      subst e1
      have HJ := Lib.hid (And.intro hJ hK)
      clear hJ hK
      gi_wp2
      go_end0
      exact ⟨⟨_, rfl⟩, own, HJ.out.2, .inl ⟨_, rfl, HJ.out.1⟩⟩
end Bu
end Go.Proofs.Ytlknhbcambdccaa
namespace Go.Proofs.Ytlknhbcambdccaa
open Go.RowKit Go.Shelf
namespace Sl
open Bu
attribute [local go_sem] Oper.semAt_some

theorem free_nums (d s q : Nat) (hd : d ≤ 65536) (hs : 8 ≤ s) (hq : q = d / s) (hm : d % s = 0) : wrap64 ((d : Int).tdiv (s : Int)) = (q : Int) ∧ (d : Int) / (s : Int) = (q : Int) ∧ (d : Int) % (s : Int) = 0 ∧ wrap64 (q : Int) = (q : Int) := by
  have h1 := quo_w64 d s hd hs
  rw [← hq] at h1
  have h2 : (d : Int) / (s : Int) = ((d / s : Nat) : Int) := rfl
  rw [← hq] at h2
  have h3 : (d : Int) % (s : Int) = ((d % s : Nat) : Int) := rfl
  rw [hm] at h3
  have h4 : q ≤ d := by rw [hq]; exact Nat.div_le_self _ _
  refine ⟨h1, h2, h3, ?_⟩
  clear h1 h2 h3 hq hm
  rw [← w64]; exact IntWalk.i64_in _ (by omega)

/-- What the loop over the slabs starts with. -/
structure GoneAt (w : World) (own : Own?) (c b B0 S g cap : Nat) (C C2 : Ca) (R : List Nat) (N : Nat) (L : List Blk) (W : World) : Prop where
  cache : CacheAt W own c b C2 (C.keep + 1) (some ⟨g, 0, none⟩) cap R
  bu : BuL W b N L
  box : W.heap[B0]? = some (.cells #[.pointer (some ⟨c, 0, none⟩)] 22 (0, 0))
  keeps : Keeps own own w W
  size : W.heap.size = S + 1
  back : W.cell? ⟨S, 0, none⟩ = some (.slice (some ⟨g, 0, none⟩) R.length cap)
  rl : R.length ≤ 1000000 ∧ R.length ≤ cap
  gone : own S = none ∧ own B0 = none ∧ B0 < S
  fresh : Fresh own W

theorem free_ready {w W1 W2 W6 : World} {own : Own?} {c b : Nat} {C : Ca} {N : Nat} {L : List Blk} {e cap j i p u ucap g S m dd nq : Nat} {x : Slb} {R : List Nat} (H : Held w own c b C N L) (hC : CacheAt W1 own c b C e (some ⟨g, 0, none⟩) cap R) (hs : SlabAt W1 own p u x.many ucap x) (hp : R[j]? = some p) (hx : C.sl[j]? = some x) (hv : x.us[i]? = some true) (hm : m + 1 = x.many)
    (hke : e = C.keep) (hb1 : Below w.heap.size w W1) (hB1 : W1.heap[w.heap.size]? = some (.cells #[.pointer (some ⟨c, 0, none⟩)] 22 (0, 0))) (hS : S = W1.heap.size) (hwn : own w.heap.size = none) (hW2 : W2 = W1.drewN dd)
    (hW6 : W6 = ((((W2.setCell ⟨u, i, none⟩ (.bool false)).setCell ⟨p, 2, none⟩ (.int .i64 (m : Int))).setCell ⟨c, 5, none⟩ (.int .i64 ((e : Int) + 1))).drewN nq).alloc (.cells #[.slice (some ⟨g, 0, none⟩) R.length cap] 76)) :
    GoneAt w own c b w.heap.size S g cap C { C with sl := setS C.sl j i false } R N L W6 := by
  subst hW2
  subst hke
  obtain ⟨W5, hW5⟩ : ∃ W5, W5 = ((((W1.drewN dd).setCell ⟨u, i, none⟩ (.bool false)).setCell ⟨p, 2, none⟩ (.int .i64 (m : Int))).setCell ⟨c, 5, none⟩ (.int .i64 ((C.keep : Int) + 1))).drewN nq := ⟨_, rfl⟩
  rw [← hW5] at hW6
  obtain ⟨hpc, huc, hup, hpb, hub, hcb⟩ := slab_apart hC hs
  have hs5 : W5.heap.size = S := by rw [hW5, hS]; show ((((W1.drewN dd).setCell _ _).setCell _ _).setCell _ _).heap.size = _; rw [setCell_size, setCell_size, setCell_size]; rfl
  have hC' := cache_free (W := (((W1.drewN dd).setCell ⟨u, i, none⟩ (.bool false)).setCell ⟨p, 2, none⟩ (.int .i64 (m : Int)))) hC hp hx hs hv hm (fun _ => rfl)
  have hC5 := cache_empty (W := W5) (e' := C.keep + 1) hC' (fun k => by rw [hW5]; rfl)
  obtain ⟨hK, hfar⟩ := free_worlds (W := W5) hb1 (show own p ≠ none by rw [hs.ownP]; simp) (show own u ≠ none by rw [hs.ownU]; simp) (show own c ≠ none by rw [hC.ownC]; simp) (by rw [hW5]; rfl) (by rw [hW5]; rfl) (by rw [hW5]; rfl) (by rw [hs5, hS]) (fun k h1 h2 h3 => by rw [hW5]; exact (setCell_far _ _ _ _ h3).trans ((setCell_far _ _ _ _ h1).trans (setCell_far _ _ _ _ h2)))
  have hb6 : Below W5.heap.size W5 W6 := by rw [hW6]; exact below_box _ _
  have hpw : p ≠ w.heap.size := fun e => by have := hs.ownP; rw [e, hwn] at this; cases this
  have huw : u ≠ w.heap.size := fun e => by have := hs.ownU; rw [e, hwn] at this; cases this
  have hcw : c ≠ w.heap.size := fun e => by have := hC.ownC; rw [e, hwn] at this; cases this
  have hwl : w.heap.size < W1.heap.size := lt_of_heap hB1
  refine ⟨hC5.same (fun k _ _ hl => hb6.block k hl) (fun _ _ _ => rfl) rfl, H.bu.keep ?_, ?_, hK.trans (.of_below own hb6), ?_, ?_, ?_, ?_, H.fresh.keeps (hK.trans (.of_below own hb6))⟩
  · exact (hb6.block b (by have := H.bu.lt; have := hK.size; omega)).trans (hfar b H.bu.lt hpb.symm hub.symm hcb.symm)
  · rw [hb6.block _ (by omega), hW5]
    exact (setCell_far _ _ _ _ hcw.symm).trans ((setCell_far _ _ _ _ hpw.symm).trans ((setCell_far _ _ _ _ huw.symm).trans hB1))
  · rw [hW6, World.size_alloc, hs5]
  · have := (Bu.one_cell (w := W6) (b := S) (T := 76) (x := .slice (some ⟨g, 0, none⟩) R.length cap) (by rw [hW6, heapAlloc, if_pos hs5.symm])).1
    exact this
  · have h1 := ok_len H.ok
    have h2 := hC.len
    obtain ⟨h3, _⟩ := row_caps hC.row
    exact ⟨by omega, h3⟩
  · refine ⟨?_, hwn, by omega⟩
    refine Classical.byContradiction fun hn => ?_
    have := H.fresh S hn
    omega

set_option maxRecDepth 100000 in
set_option maxHeartbeats 8000000 in
theorem freeS_gone (w : World) (own : Own?) (c b : Nat) (C : Ca) (N : Nat) (L : List Blk) (H : Held w own c b C N L) (at_ : Int) (ha1 : -9223372036854775808 ≤ at_) (ha2 : at_ < 9223372036854775808) (j d : Nat) (hhit : holdS C.order 0 C.sl at_ = some (j, d)) (hmod : d % C.size = 0)
    (hv0 : ∃ x, C.sl[j]? = some x ∧ x.us[d / C.size]? = some true) (hone : ∀ x, C.sl[j]? = some x → x.many = 1) (hkeep : emptyS C.sl = C.keep) :
    Calls Try.prog 11 #[.pointer (some ⟨c, 0, none⟩), .int .i64 at_] w fun e w' => FreeS own c b C N L at_ w e w' := by
  obtain ⟨x, hx, hd, -, -, -, hul, -⟩ := hit_data H hhit
  obtain ⟨x', hx', hv⟩ := hv0
  obtain rfl : x = x' := by rw [hx] at hx'; injection hx'
  clear hx'
  obtain ⟨W1, hW1⟩ : ∃ W1, W1 = w.alloc (.cells #[.pointer (some ⟨c, 0, none⟩)] 22) := ⟨_, rfl⟩
  have hb1 : Below w.heap.size w W1 := by rw [hW1]; exact below_box w _
  have hB1 : W1.heap[w.heap.size]? = some (.cells #[.pointer (some ⟨c, 0, none⟩)] 22 (0, 0)) := by rw [hW1, heapAlloc, if_pos rfl]
  have H1 := H.below hb1
  obtain ⟨A, cap, R, hC⟩ := H1.at_
  have hpg : ∀ x ∈ C.sl, x.pg ≤ 1024 := fun x hx => by
    have h2 : x.pg + 2 ^ C.order ≤ 1024 := (st_le H.ok.st _ (H.ok.giv x hx)).2
    have := pow_pos2 C.order
    omega
  have hh := holder_ok W1 own c b C _ A cap R hC hpg H.ok.od H.ok.sz.2.1 at_ ha1 ha2
  unfold HoldR at hh
  rw [hhit] at hh
  simp only at hh
  obtain ⟨p, hp⟩ : ∃ p, R[j]? = some p := ⟨_, List.getElem?_eq_getElem (by have := (List.getElem?_eq_some_iff.1 hx).1; have := hC.len; omega)⟩
  have hh2 : Calls Try.prog 35 #[.pointer (some ⟨c, 0, none⟩), .int .i64 at_] W1 fun e w' => e = .returned (.tuple #[.pointer (some ⟨p, 0, none⟩), .int .i64 (d : Int)]) ∧ ∃ n, w' = W1.drewN n := by
    refine hh.mono ?_
    rintro e w' ⟨⟨p', hp', he⟩, hw⟩
    rw [hp] at hp'
    injection hp' with hp'
    subst hp'
    exact ⟨he, hw⟩
  obtain ⟨c0, _, _, _, _, _, _, _⟩ := six_cells hC.cell
  have HD := Lib.hid (dead_ok W1 c (some ⟨b, 0, none⟩) c0)
  obtain ⟨u, uc, hs⟩ := hC.slab j p x hp hx
  have HH := Lib.hid hh2
  have hsz : (C.size : Int) ≠ 0 := by have := H.ok.sz.1; omega
  have hq : ∀ w : World, (binOp .eql 97 (.pointer (some ⟨p, 0, none⟩)) (.pointer none)).run Try.prog w = .ok (.bool false) w := fun w => run_eql_ptr_nil Try.prog w 97 _ (some ⟨p, 0, none⟩) Try.underlying97
  have e0 : (0 : Int) ≤ (d : Int) := by omega
  obtain ⟨q, hqe⟩ : ∃ q, q = d / C.size := ⟨_, rfl⟩
  have HG := Lib.hid (free_nums d C.size q hd H.ok.sz.1 hqe hmod)
  have e1 : (0 : Int) ≤ (C.size : Int) := by omega
  rw [← hqe] at hv
  have hql : q < x.us.length := (List.getElem?_eq_some_iff.1 hv).1
  have e2 : (0 : Int) ≤ (q : Int) := by omega
  have e3 : (q : Int) < (x.us.length : Int) := by omega
  have e4 : ¬ (x.us.length : Int) ≤ (q : Int) := by omega
  obtain ⟨m, hm⟩ : ∃ m, m + 1 = x.many := ⟨x.many - 1, by have := (many_set hv).2; omega⟩
  have hmle := many_le x
  obtain ⟨hpc, huc, hup, hpb, hub, hcb⟩ := slab_apart hC hs
  obtain ⟨hcap1, hcap2, _⟩ := row_caps hs.row
  have hcap3 : uc ≤ 9223372036854775807 := by unfold maxLen at hcap2; exact hcap2
  have hsz1 : w.heap.size < W1.heap.size := lt_of_heap hB1
  have hwn : own w.heap.size = none := by
    refine Classical.byContradiction fun hn => ?_
    have := H.fresh _ hn
    omega
  have hpw : p ≠ w.heap.size := fun e => by have := hs.ownP; rw [e, hwn] at this; cases this
  have huw : u ≠ w.heap.size := fun e => by have := hs.ownU; rw [e, hwn] at this; cases this
  have hcw : c ≠ w.heap.size := fun e => by have := hC.ownC; rw [e, hwn] at this; cases this
  have hdec : IntKind.i64.wrap (((m + 1 : Nat) : Int) - 1) = (m : Int) := by rw [IntWalk.i64_in _ (by omega)]; omega
  have he1024 : emptyS C.sl ≤ 64 := Nat.le_trans H.ok.emp H.ok.kp
  obtain ⟨e, hee⟩ : ∃ e, e = emptyS C.sl := ⟨_, rfl⟩
  have hinc : IntKind.i64.wrap ((e : Int) + 1) = ((e + 1 : Nat) : Int) := by rw [IntWalk.i64_in _ (by omega)]; rfl
  rw [← hee] at hC
  have hmb : m ≤ 128 := by omega
  have heb : e ≤ 64 := by omega
  have hm1 : m = 0 := by have := hone x hx; omega
  have hmz : ¬ 0 < m := by omega
  have hmzi : ¬ (0 : Int) < (m : Int) := by omega
  have HM := Lib.hid (And.intro hm1 hkeep)
  have hki : (C.keep : Int) < (e : Int) + 1 := by omega
  obtain ⟨g, rfl⟩ : ∃ g, A = some ⟨g, 0, none⟩ := by
    rcases hC.row.2 with ⟨_, h0⟩ | ⟨g, cp, cur, hv, _⟩
    · have := (List.getElem?_eq_some_iff.1 hp).1; omega
    · injection hv with hv; exact ⟨g, hv⟩
  obtain ⟨S, hS⟩ : ∃ S, S = W1.heap.size := ⟨_, rfl⟩
  obtain ⟨n0, hn0⟩ : ∃ n0, n0 = R.length := ⟨_, rfl⟩
  have HS := Lib.hid (And.intro hS hn0)
  have hbk : ∀ W : World, W.heap.size = S → Calls Try.prog 36 #[.slice (some ⟨g, 0, none⟩) n0 cap] W fun e w' => e = .returned (.func (.func 70) #[] #[.pointer (some ⟨S, 0, none⟩)]) ∧ w' = W.alloc (.cells #[.slice (some ⟨g, 0, none⟩) n0 cap] 76) := fun W hW => by
    have := backward_ok W (some ⟨g, 0, none⟩) n0 cap
    rw [hW] at this
    exact this
  have HBk := Lib.hid hbk
  have HX := Lib.hid (And.intro H (And.intro hC (And.intro hs (And.intro hp (And.intro hx (And.intro hv (And.intro hm (And.intro hee (And.intro hqe (And.intro hmod (And.intro hhit (And.intro hb1 (And.intro hB1 (And.intro hul (And.intro hwn (And.intro hsz1 H1))))))))))))))))
  have HW := Lib.hid hW1
  obtain ⟨bx0, _⟩ := Bu.one_cell hB1
  rw [← hm] at hs
  clear hkeep hone hm1 hS hn0 hbk hh hh2 hpg hC H c0 hb1 hB1 hW1 hp hx hhit hqe hmod hm hmle hee H1 hwn hcap2 hcap1 hul hd he1024 hv
  refine (callsIn_wide (n := 8)).1 ?_
  refine callsIn_of_wp_marks Try.func11 rfl trivial ?_ rfl
  simp only [Try.ntmps11, List.size_toArray, List.length_cons, List.length_nil, Nat.reduceAdd, Nat.reduceSub, Array.replicate_succ, Array.replicate_zero, List.push_toArray, List.append_toArray, List.nil_append, List.cons_append]
  refine wpIn_wide.2 ?_
  go_wp2_with (go_at_call 34; fail)
  rw [← HW.out]
  refine HD.out.mono ?_
  rintro e w' ⟨rfl, rfl⟩
  go_wp2_with (go_at_call 35; fail)
  refine HH.out.mono ?_
  rintro _ W2 ⟨rfl, dd, hW2⟩
  obtain ⟨g1, g3, g4, g5⟩ := HG.out
  have hqd : decide (x.us.length ≤ q) = false := by rw [decide_eq_false_iff_not]; exact Nat.not_le.2 hql
  have hqe : ¬ x.us.length ≤ q := Nat.not_le.2 hql
  have hh2 : ∀ k : Nat, W2.heap[k]? = W1.heap[k]? := fun k => by rw [hW2]; rfl
  obtain ⟨p0, p1, p2, pf⟩ := three_cells ((hh2 p).trans hs.cell)
  obtain ⟨c0, c1, c2, c3, c4, c5, _, f5⟩ := six_cells ((hh2 c).trans HX.out.2.1.cell)
  obtain ⟨bx, _⟩ := Bu.one_cell ((hh2 _).trans HX.out.2.2.2.2.2.2.2.2.2.2.2.2.1)
  have hrU : W2.ownsRow 0 4 1 (.slice (some ⟨u, 0, none⟩) x.us.length uc) x.us.length (bcells x.us) := row_same hs.row fun g _ => hh2 g
  have u1 := row_cell hrU (i := q) (v := .bool true) (by rw [bcells_get, HX.out.2.2.2.2.2.1]; rfl)
  have u2 := row_frozen hrU q
  rw [← HS.out.2] at c4
  have H2 := Lib.hid (And.intro hW2 hh2)
  clear hW2 hh2 hrU hs
  go_wp2_with (fail)
  go_quiet (fail)
  go_wp2_with (go_at_call 36; refine (HBk.out _ (by show (World.heap (World.setCell (World.setCell (World.setCell W2 _ _) _ _) _ _)).size = S; rw [setCell_size, setCell_size, setCell_size, HS.out.1, H2.out.1]; rfl)).mono ?_; rintro e6 W6 ⟨rfl, hW6⟩; have H6 := Lib.hid hW6; clear hW6)
  refine (wpIn_wide (n := 8)).1 ?_
  have hrd : ∃ C2 : Ca, C2 = { C with sl := setS C.sl j q false } ∧ GoneAt w own c b w.heap.size S g cap C C2 R N L W6 ∧ emptyS C2.sl = C.keep + 1 ∧ C2.order = C.order ∧ C2.keep = C.keep ∧ (∀ y ∈ C2.sl, (y.pg, C2.order) ∈ L) := by
    obtain ⟨H, hC, hs, hp, hx, hv, hm, hee, hqe, hmod, hhit, hb1, hB1, hul, hwn, hsz1, H1⟩ := HX.out
    have h6 := H6.out
    rw [HS.out.2] at h6
    have hem := empty_free hx hv hm
    rw [if_pos HM.out.1, HM.out.2] at hem
    exact ⟨_, rfl, free_ready H hC hs hp hx hv hm (hee.trans HM.out.2) hb1 hB1 HS.out.1 hwn H2.out.1 h6, hem, rfl, rfl, (set_parts H.ok hx).2.1⟩
  obtain ⟨C2, hC2, hG, hem2, hod2, hkp2, hgiv2⟩ := hrd
  obtain ⟨ownB, hownB⟩ : ∃ ownB : Ow, ∀ k, ownB k = if k = w.heap.size then some 0 else own k := ⟨fun k => if k = w.heap.size then some 0 else own k, fun _ => rfl⟩
  have hBo : ∀ k, own k ≠ none → ownB k ≠ none ∧ k ≠ w.heap.size := fun k hk => by
    have : k ≠ w.heap.size := fun e => hk (e ▸ hG.gone.2.1)
    exact ⟨by rw [hownB, if_neg this]; exact hk, this⟩
  have HG2 := Lib.hid hG
  have HC2 := Lib.hid (And.intro hC2 (And.intro hem2 (And.intro hod2 (And.intro hkp2 hgiv2))))
  have HB2 := Lib.hid (And.intro hownB hBo)
  clear hG hC2 hem2 hod2 hkp2 hgiv2 hownB hBo bx0 bx u1 u2 p0 p1 p2 pf c0 c1 c2 c3 c4 c5 f5 hqd hqe g1 g3 g4 g5
  refine rangeZ (I := fun own2 pre V => own2 = ownB ∧ CacheAt V own c b C2 (C.keep + 1) (some ⟨g, 0, none⟩) cap R ∧ BuL V b N L ∧ V.heap[w.heap.size]? = some (.cells #[.pointer (some ⟨c, 0, none⟩)] 22 (0, 0)) ∧ ∀ i ∈ pre, ∀ y, C2.sl[i]? = some y → y.many ≠ 0)
    (Ix := fun cd own2 _ V => cd = .exit 1 ∧ own2 = ownB ∧ ∃ k y, lastE C2.sl = some k ∧ C2.sl[k]? = some y ∧ y.many = 0 ∧ CacheAt V own c b { C2 with sl := C2.sl.eraseIdx k } C.keep (some ⟨g, 0, none⟩) cap (R.eraseIdx k) ∧ BuL V b N (delB L (y.pg, C2.order)))
    rfl (by omega) (gf := 70) (lb := #[.pointer (some ⟨S, 0, none⟩)]) rfl trivial (enters_of Try.func70 (by kernel_rfl) rfl)
    (backseq (8 - 1) (by omega) S g cap R HG2.out.rl.1 HG2.out.rl.2) ownB ?hf0 ?hD ?hR (fun _ => rfl) ?hE ?hI ?hIx ?h0 ?a1 ?assign ?body ?done ?stop
  case hf0 =>
    intro k hk
    have hsz := HG2.out.size
    have hlt := HG2.out.gone.2.2
    rw [HB2.out.1] at hk
    by_cases e : k = w.heap.size
    · omega
    · rw [if_neg e] at hk
      exact HG2.out.fresh k hk
  case hD =>
    intro V hV
    have hsz := HG2.out.size
    exact ⟨by have := hV.size; omega, (hV.cell (p := ⟨S, 0, none⟩) (show S < W6.heap.size by omega)).trans HG2.out.back⟩
  case hR =>
    rintro k rfl
    have hsz := HG2.out.size
    have hlt := HG2.out.gone.2.2
    exact ⟨by rw [HB2.out.1, if_neg (by omega)]; exact HG2.out.gone.1, by omega⟩
  case hE =>
    rintro own2 pre V ⟨_, hC, _⟩ i p hp
    exact row_cell hC.row (i := i) (v := .pointer (some ⟨p, 0, none⟩)) (by unfold ptrs; rw [List.getElem?_map, hp]; rfl)
  case hI =>
    rintro own2 pre V V' ⟨rfl, h1, h2, h3, h4⟩ hs hk
    have hk2 : ∀ k, own k ≠ none → k < V.heap.size → V'.heap[k]? = V.heap[k]? := fun k h5 h6 => hk k (HB2.out.2 k h5).1 h6
    exact ⟨rfl, h1.same (fun k h5 _ h6 => hk2 k h5 h6) (fun _ _ _ => rfl) rfl, h2.keep (hk2 b (by rw [h1.ownB]; simp) h2.lt), (hk _ (by rw [HB2.out.1, if_pos rfl]; simp) (lt_of_heap h3)).trans h3, h4⟩
  case hIx =>
    rintro cd own2 pre V V' ⟨h0, rfl, k, y, h1, h2, h3, h4, h5⟩ hs hk
    have hk2 : ∀ k, own k ≠ none → k < V.heap.size → V'.heap[k]? = V.heap[k]? := fun k h5 h6 => hk k (HB2.out.2 k h5).1 h6
    exact ⟨h0, rfl, k, y, h1, h2, h3, h4.same (fun k h5 _ h6 => hk2 k h5 h6) (fun _ _ _ => rfl) rfl, h5.keep (hk2 b (by rw [h4.ownB]; simp) h5.lt)⟩
  case h0 =>
    exact ⟨rfl, HG2.out.cache, HG2.out.bu, HG2.out.box, fun i hi => by cases hi⟩
  case assign =>
    intro l x V K hK
    gi_wp2
    exact hK
  case body =>
    rintro l own2 pre i V ⟨rfl, hC, hB, hbx, hno⟩ hf2 ⟨k, hk, hi, hpre⟩
    obtain ⟨p', hp'⟩ : ∃ p', R[i]? = some p' := ⟨_, List.getElem?_eq_getElem (by omega)⟩
    obtain ⟨y, hy⟩ : ∃ y, C2.sl[i]? = some y := ⟨_, List.getElem?_eq_getElem (by have := hC.len; omega)⟩
    obtain ⟨u', uc', hs'⟩ := hC.slab i p' y hp' hy
    have hgd : R[i]?.getD 0 = p' := by rw [hp']; rfl
    obtain ⟨_, _, q2, _⟩ := three_cells hs'.cell
    obtain ⟨bx, _⟩ := Bu.one_cell hbx
    obtain ⟨my, hmy⟩ : ∃ my, my = y.many := ⟨_, rfl⟩
    rw [← hmy] at q2
    by_cases hz : my = 0
    · have t1 : ((my : Int) == 0) = true := by rw [hz]; rfl
      have hgv := give_ok V own c b i C2 C.keep (some ⟨g, 0, none⟩) cap R N L y hC hB hy (HC2.out.2.2.2.2 y (List.mem_of_getElem? hy)) (by have := HX.out.1.ok.kp; omega)
      have HGv := Lib.hid hgv
      have HJ := Lib.hid (And.intro hno (And.intro hi (And.intro hpre (And.intro hy (And.intro hmy (And.intro hz (And.intro hk (And.intro hC.len hf2))))))))
      clear hgv hno hi hpre hy hmy hz hC hB hbx hs' hp' hk hf2
      gi_wp2
      refine ⟨trivial, CallsIn.mono (CallsIn.inRound l (callsIn_wide.2 HGv.out)) ?_⟩
      rintro e w9 ⟨rfl, k1, k2, k3⟩
      have H9 := Lib.hid (And.intro k1 (And.intro k2 k3))
      clear k1 k2 k3
      gi_wp2
      have hno := HJ.out.1
      have hcl := HJ.out.2.2.2.2.2.2.2.1
      refine ⟨own2, ⟨H9.out.2.2.os, H9.out.2.2.tape, H9.out.2.2.output, H9.out.2.2.size, fun z hz hn => H9.out.2.2.block z hz ?_, fun _ _ => rfl, fun _ h => .inl h⟩, rfl, rfl, i, y, ?_, HJ.out.2.2.2.1, ?_, H9.out.1, H9.out.2.1⟩
      · rw [HB2.out.1] at hn
        split at hn
        · cases hn
        · exact hn
      · refine lastE_at HJ.out.2.2.2.1 ?_ fun j' y' hj' hy' => hno j' ?_ y' hy'
        · have := HJ.out.2.2.2.2.1; have := HJ.out.2.2.2.2.2.1; omega
        · have hjl := (List.getElem?_eq_some_iff.1 hy').1
          have hi := HJ.out.2.1
          have hk := HJ.out.2.2.2.2.2.2.1
          rw [HJ.out.2.2.1]
          unfold down
          exact List.mem_map.2 ⟨R.length - 1 - j', List.mem_range.2 (by omega), by omega⟩
      · have := HJ.out.2.2.2.2.1; have := HJ.out.2.2.2.2.2.1; omega
    · have t1 : ((my : Int) == 0) = false := by rw [beq_eq_false_iff_ne]; omega
      have HJ := Lib.hid (And.intro hC (And.intro hB (And.intro hbx (And.intro hno (And.intro hy (And.intro hmy hz))))))
      clear hno hi hpre hy hmy hz hC hB hbx hs' hp' hk hf2
      gi_wp2
      obtain ⟨hC, hB, hbx, hno, hy, hmy, hz⟩ := HJ.out
      refine ⟨own2, Bu.Keeps.refl _ _, rfl, hC, hB, hbx, fun i' hi' y' hy' => ?_⟩
      rcases List.mem_append.1 hi' with h | h
      · exact hno i' h y' hy'
      · have : i' = i := by simpa using h
        subst this
        rw [hy] at hy'
        injection hy' with hy'
        rw [← hy', ← hmy]
        exact hz
  case done =>
    rintro own2 xs V hS ⟨rfl, hC, hB, hbx, hno⟩ hK hd hdv
    exfalso
    obtain ⟨H, hC1, hs, hp, hx, hv, hm, hee, hqe, hmod, hhit, _⟩ := HX.out
    have hset := setS_eq (i := q) (v := false) hx
    have hjl := (List.getElem?_eq_some_iff.1 hx).1
    have h2 : C2.sl[j]? = some ⟨x.pg, x.us.set q false⟩ := by
      rw [HC2.out.1]
      show (setS C.sl j q false)[j]? = _
      rw [hset, List.getElem?_set_self hjl]
    refine hno j ?_ _ h2 ?_
    · rw [hS]
      unfold down
      have := (List.getElem?_eq_some_iff.1 hp).1
      exact List.mem_map.2 ⟨R.length - 1 - j, List.mem_range.2 (by omega), by omega⟩
    · have := (many_set hv).1
      have := HM.out.1
      omega
  case stop =>
    rintro own2 cd pre V hSp ⟨rfl, rfl, k, y, h1, h2, h3, h4, h5⟩ hK hd hdv
    have HE := Lib.hid (And.intro h1 (And.intro h2 (And.intro h3 (And.intro h4 (And.intro h5 (And.intro hK (And.intro hd hdv)))))))
    clear h1 h2 h3 h4 h5 hK hd hdv hSp
    gi_wp2
    go_wp2
    refine ⟨by simp, .inl ⟨_, _, rfl, run_takeDeferred HE.out.2.2.2.2.2.2.2, ?_⟩⟩
    refine ⟨_, results_tmp rfl _ _ _, ?_⟩
    obtain ⟨H, hC1, hs, hp, hx, hv, hm, hee, hqe, hmod, hhit, _⟩ := HX.out
    obtain ⟨h1, h2, h3, h4, h5, hK, hd, hdv⟩ := HE.out
    obtain ⟨hC2, hem2, hod2, hkp2, hgiv2⟩ := HC2.out
    have hG := HG2.out
    have hpo : ∀ z, own z ≠ none → z ≠ W6.heap.size := fun z hz e => by
      have := hG.fresh z hz
      omega
    have hKW : Keeps own own w (V.putObj W6.heap.size (.deferred none)) := by
      have h6 := hG.keeps
      refine keeps_own (hK.os.trans h6.os) (hK.tape.trans h6.tape) (hK.output.trans h6.output) ?_ fun z hz hn => ?_
      · have := hK.size; have := h6.size; simp; omega
      · have hsz := h6.size
        rw [World.putObj_heap_other (by omega), hK.block z (by omega) ?_]
        · exact h6.block z hz hn
        · have hlt := hG.gone.2.2
          rw [HB2.out.1, if_neg (by omega)]; exact hn
    subst hC2
    subst hqe
    have hC4 : CacheAt (V.putObj W6.heap.size (.deferred none)) own c b { C with sl := (setS C.sl j (d / C.size) false).eraseIdx k } C.keep (some ⟨g, 0, none⟩) cap (R.eraseIdx k) := h4.same (fun z hz _ _ => World.putObj_heap_other (hpo z hz)) (fun _ _ _ => rfl) rfl
    exact free_gone H hhit hx hmod hv hem2 h1 h2 h3 hC4 (h5.keep (World.putObj_heap_other (hpo b (by rw [hC1.ownB]; simp)))) hKW
end Sl
end Go.Proofs.Ytlknhbcambdccaa
namespace Go.Proofs.Ytlknhbcambdccaa
open Go.RowKit
namespace Sl
open Bu

set_option maxRecDepth 100000 in
set_option maxHeartbeats 4000000 in
theorem freeS_none (w : World) (own : Own?) (c b : Nat) (C : Ca) (N : Nat) (L : List Blk) (H : Held w own c b C N L) (at_ : Int) (ha1 : -9223372036854775808 ≤ at_) (ha2 : at_ < 9223372036854775808) (hno : holdS C.order 0 C.sl at_ = none) :
    Calls Try.prog 11 #[.pointer (some ⟨c, 0, none⟩), .int .i64 at_] w fun e w' => e = .returned (.int .i64 4) ∧ Below w.heap.size w w' := by
  obtain ⟨W1, hW1⟩ : ∃ W1, W1 = w.alloc (.cells #[.pointer (some ⟨c, 0, none⟩)] 22) := ⟨_, rfl⟩
  have hb1 : Below w.heap.size w W1 := by rw [hW1]; exact below_box w _
  have hB1 : W1.heap[w.heap.size]? = some (.cells #[.pointer (some ⟨c, 0, none⟩)] 22 (0, 0)) := by rw [hW1, heapAlloc, if_pos rfl]
  obtain ⟨A, cap, R, hC⟩ := (H.below hb1).at_
  have hpg : ∀ x ∈ C.sl, x.pg ≤ 1024 := fun x hx => by
    have h2 : x.pg + 2 ^ C.order ≤ 1024 := (st_le H.ok.st _ (H.ok.giv x hx)).2
    have := pow_pos2 C.order
    omega
  have hh := holder_ok W1 own c b C _ A cap R hC hpg H.ok.od H.ok.sz.2.1 at_ ha1 ha2
  unfold HoldR at hh
  rw [hno] at hh
  obtain ⟨c0, c1, _, _, _, _, _, _⟩ := six_cells hC.cell
  obtain ⟨bx, _⟩ := Bu.one_cell hB1
  have HD := Lib.hid (dead_ok W1 c (some ⟨b, 0, none⟩) c0)
  have HH := Lib.hid hh
  have hsz : (C.size : Int) ≠ 0 := by have := H.ok.sz.1; omega
  have hq : ∀ w : World, (binOp .eql 97 (.pointer none) (.pointer none)).run Try.prog w = .ok (.bool true) w := fun w => run_eql_ptr_nil Try.prog w 97 _ none Try.underlying97
  have HB := Lib.hid hb1
  have HW := Lib.hid hW1
  clear hh hno hpg hC H c0 hb1 hB1 hW1
  go_enter Try.func11, Try.ntmps11
  go_wp2_with (go_at_call 34; fail)
  rw [← HW.out]
  refine HD.out.mono ?_
  rintro e w' ⟨rfl, rfl⟩
  go_wp2_with (go_at_call 35; refine HH.out.mono ?_; rintro e w' ⟨rfl, d, rfl⟩)
  go_ret
  exact ⟨rfl, below_drewN HB.out _⟩
end Sl
end Go.Proofs.Ytlknhbcambdccaa
