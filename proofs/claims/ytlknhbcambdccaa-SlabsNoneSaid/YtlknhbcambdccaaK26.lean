/- slices.Delete of one slab. give: an empty slab goes back to the allocator. slices.Backward over the slabs. -/
import Derived.Test.YtlknhbcambdccaaK22
import Derived.Test.YtlknhbcambdccaaK25
import Derived.Test.YtlknhbcambdccaaK21
import Derived.Test.YtlknhbcambdccaaK23
import Derived.Deep.RegionWith
import Derived.Test.YtlknhbcambdccaaK20
namespace Go.Proofs.Ytlknhbcambdccaa
open Go.RowKit
namespace Sl
open Bu

def encP (o : Option Nat) : Value := .pointer (o.map fun p => ⟨p, 0, none⟩)
theorem encP_one : OneCell encP := fun _ => rfl
theorem ptrs_enc (R : List Nat) : ptrs R = (R.map some).map encP := by unfold ptrs; rw [List.map_map]; rfl

set_option maxRecDepth 100000 in
theorem delete_ok (w : World) (g cap k : Nat) (R : List Nat) (hr : w.ownsRow 0 97 1 (.slice (some ⟨g, 0, none⟩) R.length cap) R.length (ptrs R)) (hk : k < R.length) :
    Calls Try.prog 72 #[.slice (some ⟨g, 0, none⟩) R.length cap, .int .i64 (k : Int), .int .i64 ((k + 1 : Nat) : Int)] w fun e w' =>
      e = .returned (.slice (some ⟨g, 0, none⟩) (R.eraseIdx k).length cap) ∧ w'.ownsRow 0 97 1 (.slice (some ⟨g, 0, none⟩) (R.eraseIdx k).length cap) (R.eraseIdx k).length (ptrs (R.eraseIdx k)) ∧ OnlyB (some g) w w' := by
  obtain ⟨cur, hg, hs, hx, hn, hc⟩ := row_form hr
  obtain ⟨i0, hi0, hz1⟩ : ∃ i0, Try.prog.info? 97 = some i0 ∧ i0.size = 1 := by
    have := ptr_size
    cases e : Try.prog.info? 97 with
    | none => rw [e] at this; cases this
    | some i0 => rw [e] at this; injection this with this; exact ⟨i0, rfl, this⟩
  have hds : (R.map some).toArray.size = R.length := by simp
  have hH : Go.Sort.Holds encP w g 0 (R.map some).toArray := by
    intro j hj
    rw [hds] at hj
    refine ⟨?_, by simp [World.frozen?, hg]⟩
    rw [cell_of_row w g _ cur _ _ hg, Nat.zero_add]
    have h1 : (ptrs R)[j]? = some (encP (R.map some).toArray[j]!) := by
      rw [ptrs_enc, List.getElem?_map, getElem!_pos _ j (by simpa using hj)]
      simp [hj]
    rw [← hx, List.getElem?_take_of_lt hj, Array.getElem?_toList] at h1
    exact h1
  have hD := AnyE.slices_Delete Try.delSlab encP encP_one none Try.zeroValue97 i0 hi0 hz1 g 0 cap k (k + 1) (R.map some).toArray w hH (by rw [hds]; exact hn) hc (by omega) (by rw [hds]; omega)
  rw [hds] at hD
  have hel : (R.eraseIdx k).length = R.length - 1 := List.length_eraseIdx_of_lt hk
  refine Calls.mono hD ?_
  rintro e w' ⟨he, q, rfl⟩
  obtain ⟨D, hDe⟩ : ∃ D, D = ((R.map some).toArray.toList.take k ++ (R.map some).toArray.toList.drop (k + 1) ++ List.replicate (k + 1 - k) none).toArray := ⟨_, rfl⟩
  rw [← hDe]
  have hDs : D.size = R.length := by rw [hDe]; simp; omega
  have hhp : ∀ z : Nat, (Go.Sort.putRow encP (Go.Sort.ahead w q) g 0 D).heap[z]? = if g = z then (w.heap[z]?).map (Go.Sort.onCells (Go.Sort.putCells encP 0 D)) else w.heap[z]? := fun z => by
    show (w.heap.modify g (Go.Sort.onCells (Go.Sort.putCells encP 0 D)))[z]? = _
    rw [Array.getElem?_modify]
  have hnew : (Go.Sort.putRow encP (Go.Sort.ahead w q) g 0 D).heap[g]? = some (.cells (Go.Sort.putCells encP 0 D cur) 97 (0, 0)) := by
    rw [hhp, if_pos rfl, hg]; rfl
  refine ⟨by rw [he, hel, show R.length - (k + 1 - k) = R.length - 1 by omega], ?_, ⟨rfl, rfl, rfl, ?_, fun z hz => ?_⟩⟩
  · refine row_make hnew (by rw [← hs]; simp [Go.Sort.putCells]) ?_ (by omega) hc (Nat.zero_le _)
    have hpe : ptrs (R.eraseIdx k) = (ptrs R).take k ++ (ptrs R).drop (k + 1) := by
      unfold ptrs
      rw [List.eraseIdx_eq_take_drop_succ, List.map_append, List.map_take, List.map_drop]
    rw [hel]
    apply List.ext_getElem?
    intro t
    rw [List.getElem?_take]
    by_cases ht : t < R.length - 1
    · rw [if_pos ht, Array.getElem?_toList]
      have hts : t < cur.size := by omega
      have hDl : D.toList = (R.eraseIdx k).map some ++ [none] := by
        rw [hDe, List.eraseIdx_eq_take_drop_succ, List.map_append, List.map_take, List.map_drop, show k + 1 - k = 1 by omega]
        rfl
      have hDt : D.toList[t]? = ((R.eraseIdx k)[t]?).map some := by
        rw [hDl, List.getElem?_append_left (by simp [hel]; omega), List.getElem?_map]
      rw [Array.getElem?_toList, Array.getElem?_eq_getElem (by omega)] at hDt
      unfold ptrs
      rw [List.getElem?_map]
      obtain ⟨y, hy⟩ : ∃ y, (R.eraseIdx k)[t]? = some y := ⟨_, List.getElem?_eq_getElem (by omega)⟩
      rw [hy] at hDt ⊢
      injection hDt with hDt
      have h2 : (Go.Sort.putCells encP 0 D cur)[t]? = some (encP D[t]!) := by
        simp [Go.Sort.putCells, hts, hDs, show t < R.length by omega]
      rw [h2, getElem!_pos D t (by omega), hDt]
      rfl
    · rw [if_neg ht]
      symm
      apply List.getElem?_eq_none
      rw [ptrs_len, hel]; omega
  · show (w.heap.modify g _).size = _
    simp
  · rw [hhp, if_neg (fun e => hz (by rw [e]))]
end Sl
end Go.Proofs.Ytlknhbcambdccaa
namespace Go.Proofs.Ytlknhbcambdccaa
open Go.RowKit
namespace Sl
open Bu

theorem cache_del {w w' : World} {own : Own?} {c b k : Nat} {C : Ca} {e e' : Nat} {A : Option Addr} {cap : Nat} {R : List Nat} (h : CacheAt w own c b C e A cap R)
    (hc' : w'.heap[c]? = some (.cells #[.pointer (some ⟨b, 0, none⟩), .int .i64 (C.size : Int), .int .i64 (C.order : Int), .int .i64 (C.keep : Int), .slice A (R.eraseIdx k).length cap, .int .i64 (e' : Int)] 78 (0, 0)))
    (hr' : w'.ownsRow 0 97 1 (.slice A (R.eraseIdx k).length cap) (R.eraseIdx k).length (ptrs (R.eraseIdx k)))
    (hk : ∀ z, own z ≠ none → z ≠ c → z ≠ b → A.map (·.block) ≠ some z → z < w.heap.size → w'.heap[z]? = w.heap[z]?) : CacheAt w' own c b { C with sl := C.sl.eraseIdx k } e' A cap (R.eraseIdx k) := by
  refine ⟨h.ownC, h.ownB, hc', hr', h.ownG, ?_, (List.eraseIdx_sublist R k).nodup h.nd, fun i p x hp hx => ?_⟩
  · show _ = (C.sl.eraseIdx k).length
    rw [List.length_eraseIdx, List.length_eraseIdx, h.len]
  · have hx : (C.sl.eraseIdx k)[i]? = some x := hx
    rw [List.getElem?_eraseIdx] at hp hx
    have old : ∀ j : Nat, R[j]? = some p → C.sl[j]? = some x → ∃ u ucap, SlabAt w' own p u x.many ucap x := by
      intro j hj hy
      obtain ⟨u, uc, hs⟩ := h.slab j p x hj hy
      refine ⟨u, uc, hs.same fun z hz hl => ⟨?_, rfl⟩⟩
      rcases hz with rfl | rfl
      · refine hk _ (by rw [hs.ownP]; simp) (fun e2 => ?_) (fun e2 => ?_) (fun e2 => ?_) hl
        · have := hs.ownP; rw [e2, h.ownC] at this; cases this
        · have := hs.ownP; rw [e2, h.ownB] at this; cases this
        · have := h.ownG _ e2; rw [hs.ownP] at this; cases this
      · refine hk _ (by rw [hs.ownU]; simp) (fun e2 => ?_) (fun e2 => ?_) (fun e2 => ?_) hl
        · have := hs.ownU; rw [e2, h.ownC] at this; injection this with this; omega
        · have := hs.ownU; rw [e2, h.ownB] at this; injection this with this; omega
        · have := h.ownG _ e2; rw [hs.ownU] at this; injection this with this; omega
    split at hp
    · next hlt => rw [if_pos hlt] at hx; exact old i hp hx
    · next hlt => rw [if_neg hlt] at hx; exact old (i + 1) hp hx

/-- What give leaves. -/
def GiveR' (own : Own?) (c b k : Nat) (C : Ca) (e' : Nat) (A : Option Addr) (cap : Nat) (R : List Nat) (N : Nat) (L : List Blk) (pg : Nat) (w : World) (e0 : Ending) (w' : World) : Prop :=
  e0 = .returned (.tuple #[]) ∧ CacheAt w' own c b { C with sl := C.sl.eraseIdx k } e' A cap (R.eraseIdx k) ∧ BuL w' b N (delB L (pg, C.order)) ∧ Keeps own own w w'

set_option maxRecDepth 100000 in
set_option maxHeartbeats 8000000 in
theorem give_ok (w : World) (own : Own?) (c b k : Nat) (C : Ca) (e' : Nat) (A : Option Addr) (cap : Nat) (R : List Nat) (N : Nat) (L : List Blk) (x : Slb) (hC : CacheAt w own c b C (e' + 1) A cap R) (hB : BuL w b N L) (hx : C.sl[k]? = some x) (hgiv : (x.pg, C.order) ∈ L) (he : e' ≤ 1024) :
    Calls Try.prog 37 #[.pointer (some ⟨c, 0, none⟩), .int .i64 (k : Int)] w fun e w' => GiveR' own c b k C e' A cap R N L x.pg w e w' := by
  have hkl : k < C.sl.length := (List.getElem?_eq_some_iff.1 hx).1
  have hkR : k < R.length := by rw [hC.len]; exact hkl
  obtain ⟨p, hp⟩ : ∃ p, R[k]? = some p := ⟨_, List.getElem?_eq_getElem hkR⟩
  obtain ⟨u, uc, hs⟩ := hC.slab k p x hp hx
  obtain ⟨g, hA⟩ : ∃ g, A = some ⟨g, 0, none⟩ := by
    rcases hC.row.2 with ⟨_, h0⟩ | ⟨g, cp, cur, hv, _⟩
    · omega
    · injection hv with hv; exact ⟨g, hv⟩
  subst hA
  have hcb : c ≠ b := fun e => by have := hC.ownC; rw [e, hC.ownB] at this; cases this
  have hgo := hC.ownG g rfl
  have hgb : g ≠ b := fun e => by rw [e, hC.ownB] at hgo; cases hgo
  have hgc : g ≠ c := fun e => by rw [e, hC.ownC] at hgo; cases hgo
  have hfree : Calls Try.prog 71 #[.pointer (some ⟨b, 0, none⟩), .int .i64 (x.pg : Int), .int .i64 (C.order : Int)] (World.drew w) fun e w' => e = .returned (.int .i64 0) ∧ BuL w' b N (delB L (x.pg, C.order)) ∧ Grow1 b w w' := by
    refine (freeL_ok (World.drew w) b N L (x.pg, C.order) (hB.keep rfl) (hB.2.inb _ hgiv)).mono ?_
    rintro e w' ⟨hG, ⟨_, h1, h2⟩ | ⟨h1, _⟩⟩
    · exact ⟨h1, h2, hG.os, hG.tape, hG.output, hG.size, hG.block⟩
    · exact absurd hgiv h1
  obtain ⟨hcap1, hcap2, _⟩ := row_caps hC.row
  unfold maxLen at hcap2
  obtain ⟨n, hn⟩ : ∃ n, n = R.length := ⟨_, rfl⟩
  obtain ⟨c0, c1, c2, c3, c4, c5, _, _⟩ := six_cells hC.cell
  have p0 := (three_cells hs.cell).1
  have r0 := row_cell hC.row (i := k) (v := .pointer (some ⟨p, 0, none⟩)) (by unfold ptrs; rw [List.getElem?_map, hp]; rfl)
  have e0 : (0 : Int) ≤ (k : Int) := by omega
  have e1 : (k : Int) < (n : Int) := by omega
  have hkk : IntKind.i64.wrap ((k : Int) + 1) = ((k + 1 : Nat) : Int) := by rw [IntWalk.i64_in _ (by omega)]; rfl
  have hee : IntKind.i64.wrap (((e' + 1 : Nat) : Int) - 1) = (e' : Int) := by rw [IntWalk.i64_in _ (by omega)]; omega
  have HF := Lib.hid hfree
  rw [← hn] at c4
  have hcapn : n ≤ cap := by omega
  have HX := Lib.hid (And.intro hC (And.intro hn (And.intro hkR (And.intro hcb (And.intro hgb hgc)))))
  clear hfree hC hB hx hgiv hs hp hn hkR hkl hcap1 hgo
  go_enter Try.func37, Try.ntmps37
  go_upto_region 0 with (fail)
  go_cut [22] from 4 to 23 (fun _ wx => BuL wx b N (delB L (x.pg, C.order)) ∧ Grow1 b w wx)
  case first =>
    go_region_with (go_at_call 71; refine HF.out.mono ?_; rintro e w5 ⟨rfl, hB5, hg5⟩; have H5 := Lib.hid (And.intro hB5 hg5); clear hB5 hg5)
    all_goals
      go_wp2_with (fail)
      go_meet
      exact ⟨H5.out.1, H5.out.2.os, H5.out.2.tape, H5.out.2.output, H5.out.2.size, H5.out.2.block⟩
  case rest =>
    obtain ⟨hBc, hGc⟩ := hcut
    obtain ⟨hC, hn, hkR, hcb, hgb, hgc⟩ := HX.out
    have nC := heap_grow hGc hcb hC.cell
    have hgl : g < w.heap.size := (hC.row.lt g rfl).2
    have nR : wc.ownsRow 0 97 1 (.slice (some ⟨g, 0, none⟩) R.length cap) R.length (ptrs R) := row_same hC.row fun z hz => by
      have hz : g = z := by injection hz
      rw [← hz]
      exact hGc.block g hgl hgb
    have hdel := delete_ok wc g cap k R nR hkR
    obtain ⟨m, hm⟩ : ∃ m, m = (R.eraseIdx k).length := ⟨_, rfl⟩
    rw [← hm, ← hn] at hdel
    rw [← hn] at nC
    have HDl := Lib.hid hdel
    have HM := Lib.hid (And.intro nC (And.intro nR (And.intro hm (And.intro hgl (And.intro hBc hGc)))))
    obtain ⟨k0, k1, k2, k3, k4, k5, _, _⟩ := six_cells nC
    clear hdel nR hm hBc hGc nC hC hn hkR hcb hgb hgc c0 c1 c2 c3 c4 c5 p0 r0 hgl
    go_wp2_with (go_at_call 72; fail)
    refine HDl.out.mono ?_
    rintro e w6 ⟨rfl, hr6, ho6⟩
    have hcg : c ≠ g := fun e => HX.out.2.2.2.2.2 e.symm
    have nC6 := (ho6.block c (fun e => hcg (by injection e with e; exact e.symm))).trans HM.out.1
    obtain ⟨j0, j1, j2, j3, j4, j5, f4, f5⟩ := six_cells nC6
    have H6 := Lib.hid (And.intro hr6 (And.intro ho6 nC6))
    clear hr6 ho6 nC6 k0 k1 k2 k3 k4 k5
    go_wp2_with (fail)
    go_end0
    obtain ⟨hr6, ho6, nC6⟩ := H6.out
    obtain ⟨nC, nR, hm, hgl, hBc, hGc⟩ := HM.out
    obtain ⟨hC, hn, hkR, hcb, hgb, hgc⟩ := HX.out
    subst hm
    have hfar : ∀ z, z ≠ c → z ≠ g → ((w6.setCell ⟨c, 4, none⟩ (.slice (some ⟨g, 0, none⟩) (R.eraseIdx k).length cap)).setCell ⟨c, 5, none⟩ (.int .i64 (e' : Int))).heap[z]? = wc.heap[z]? := fun z h1 h2 => (setCell_far _ _ _ _ h1).trans ((setCell_far _ _ _ _ h1).trans (ho6.block z (fun e => h2 (by injection e with e; exact e.symm))))
    have hsz : ((w6.setCell ⟨c, 4, none⟩ (.slice (some ⟨g, 0, none⟩) (R.eraseIdx k).length cap)).setCell ⟨c, 5, none⟩ (.int .i64 (e' : Int))).heap.size = wc.heap.size := by rw [setCell_size, setCell_size]; exact ho6.size
    refine ⟨rfl, cache_del hC ?_ ?_ ?_, hBc.keep (hfar b hcb.symm hgb.symm), ⟨?_, ?_, ?_, ?_, ?_, fun _ _ => rfl, fun _ h => .inl h⟩⟩
    · exact setCell_at (w6.setCell ⟨c, 4, none⟩ (.slice (some ⟨g, 0, none⟩) (R.eraseIdx k).length cap)) c 5 _ _ _ (setCell_at w6 c 4 _ _ _ nC6)
    · exact row_same hr6 fun z hz => by
        have hz : g = z := by injection hz
        rw [← hz]
        exact (setCell_far _ _ _ _ hgc).trans (setCell_far _ _ _ _ hgc)
    · exact fun z _ h1 h2 h3 hl => (hfar z h1 (fun e => h3 (by rw [e]; rfl))).trans (hGc.block z hl h2)
    · exact ho6.os.trans hGc.os
    · exact ho6.tape.trans hGc.tape
    · exact ho6.output.trans hGc.output
    · rw [hsz]; exact hGc.size
    · intro z hl ho
      exact (hfar z (fun e => by rw [e, hC.ownC] at ho; cases ho) (fun e => by rw [e, hC.ownG g rfl] at ho; cases ho)).trans (hGc.block z hl (fun e => by rw [e, hC.ownB] at ho; cases ho))
end Sl
end Go.Proofs.Ytlknhbcambdccaa
namespace Go.Proofs.Ytlknhbcambdccaa
open Go.RowKit Go.Shelf
namespace Bu
attribute [local go_sem] Oper.semAt_some

def down (n k : Nat) : List Nat := (List.range k).map fun j => n - 1 - j
theorem down_next (n k : Nat) : down n (k + 1) = down n k ++ [n - 1 - k] := by unfold down; rw [List.range_succ, List.map_append]; rfl
theorem down_len (n k : Nat) : (down n k).length = k := by simp [down]

/-- The row that is ranged over. -/
def SlRow (g : Nat) (R : List Nat) (W : World) : Prop := ∀ (i p : Nat), R[i]? = some p → W.cell? ⟨g, i, none⟩ = some (.pointer (some ⟨p, 0, none⟩))

theorem backward_ok (w : World) (A : Option Addr) (n cap : Nat) :
    Calls Try.prog 36 #[.slice A n cap] w fun e w' => e = .returned (.func (.func 70) #[] #[.pointer (some ⟨w.heap.size, 0, none⟩)]) ∧
      w' = w.alloc (.cells #[.slice A n cap] 76) := by
  go_enter Try.func36, Try.ntmps36
  go_wp2
  go_ret
  exact ⟨rfl, rfl⟩

set_option maxRecDepth 100000 in
set_option maxHeartbeats 2000000 in
theorem backseq (n : Nat) (hn : 2 ≤ n) (b1 g cap : Nat) (R : List Nat) (hR0 : R.length ≤ 1000000) (hcp : R.length ≤ cap) :
    SeqZ Fence.wide n Try.prog 70 #[.pointer (some ⟨b1, 0, none⟩)] (fun i : Nat => #[.int .i64 (i : Int), .pointer (some ⟨R.getD i 0, 0, none⟩)])
      (fun W => b1 < W.heap.size ∧ W.cell? ⟨b1, 0, none⟩ = some (.slice (some ⟨g, 0, none⟩) R.length cap)) (SlRow g R)
      (fun k => k = b1) (fun xs => xs = down R.length R.length) (fun pre => ∃ k, k < R.length ∧ pre = down R.length (k + 1)) (fun pre x => ∃ k, k < R.length ∧ x = R.length - 1 - k ∧ pre = down R.length k) := by
  intro l J Jx own0 W ⟨hbs, hD⟩ hR hE hf hFJ hFJx hY h0
  have HY := Lib.hid hY
  have HE := Lib.hid hE
  have hR1 := hR b1 rfl
  have HOR := Lib.hid hR1
  clear hY hR hE hR1
  obtain ⟨N, hN⟩ : ∃ N, N = R.length := ⟨_, rfl⟩
  rw [← hN] at hD hR0 hcp ⊢
  have HN := Lib.hid hN
  clear hN
  have e9 : IntKind.i64.wrap ((N : Int) - 1) = (N : Int) - 1 := IntWalk.i64_in _ (by omega)
  have hdp : Fence.wide.depth.isSome = false := rfl
  have hn1 : 1 ≤ n := by omega
  refine callsIn_of_wp Try.func70 rfl trivial ?_ rfl
  simp only [Try.ntmps70, List.size_toArray, List.length_cons, List.length_nil, Nat.reduceAdd, Nat.reduceSub, Array.replicate_succ, Array.replicate_zero, List.push_toArray, List.append_toArray, List.nil_append, List.cons_append]
  gi_wp2
  gi_loopw [3] (fun v wr => ∃ (k : Nat) (z : Int) (own : Ow), k ≤ N ∧ z + (k : Int) + 1 = (N : Int) ∧ v = .int .i64 z ∧ J own (down N k) wr ∧ Keeps own0 own W wr) (fun v _ => (intOf v + 1).toNat)
  case atStart => exact ⟨0, (N : Int) - 1, own0, Nat.zero_le _, by omega, rfl, h0, Keeps.refl _ _⟩
  case round =>
    obtain ⟨k, z, own, hk, hz, rfl, hJ, hK⟩ := hrel
    have hc' : wr.cell? ⟨b1, 0, none⟩ = some (.slice (some ⟨g, 0, none⟩) N cap) := (World.cell?_of_block (a := ⟨b1, 0, none⟩) (hK.block b1 hbs HOR.out)).trans hD
    by_cases hlt : k < N
    · obtain ⟨i, rfl⟩ : ∃ i : Nat, z = (i : Int) := ⟨z.toNat, by omega⟩
      have hi : i = N - 1 - k := by omega
      have e0 : (0 : Int) ≤ (i : Int) := by omega
      have e1 : (i : Int) < (N : Int) := by omega
      have hkk : IntKind.i64.wrap ((i : Int) - 1) = (i : Int) - 1 := IntWalk.i64_in _ (by omega)
      obtain ⟨p, hp⟩ : ∃ p, R[i]? = some p := ⟨_, List.getElem?_eq_getElem (by have := HN.out; omega)⟩
      have hrow := HE.out own _ wr hJ i p hp
      have hgd : R.getD i 0 = p := by rw [List.getD_eq_getElem?_getD, hp]; rfl
      obtain ⟨fn, tmps, assign, body, hy, hRd⟩ := HY.out own (down N k) i wr hJ (hf.keeps hK) ⟨k, by have := HN.out; omega, by rw [← HN.out]; exact hi, by rw [← HN.out]⟩
      rw [hgd] at hy
      have hnx : down N (k + 1) = down N k ++ [i] := by rw [down_next, hi]
      have HJ := Lib.hid (And.intro hJ (And.intro hK (And.intro hnx hlt)))
      clear hJ hK hnx hp hgd hi
      gi_wp2
      refine hRd.mono ?_
      rintro e W3 ⟨own3, hK3, (⟨rfl, hJ3⟩ | ⟨rfl, hJ3⟩)⟩
      · have H3 := Lib.hid (And.intro hJ3 hK3)
        clear hJ3 hK3
        gi_wp2
        go_roundw
        case rel => exact ⟨k + 1, (i : Int) - 1, own3, by omega, by omega, rfl, by rw [HJ.out.2.2.1]; exact H3.out.1, HJ.out.2.1.trans H3.out.2⟩
        case measure => simp [intOf]
      · have H3 := Lib.hid (And.intro hJ3 hK3)
        clear hJ3 hK3
        gi_wp2
        refine bodyPost_ret (results_none rfl _ _ _) rfl ?_
        exact ⟨⟨_, rfl⟩, own3, HJ.out.2.1.trans H3.out.2, .inr ⟨_, ⟨k, HJ.out.2.2.2, rfl⟩, by rw [HJ.out.2.2.1]; exact H3.out.1⟩⟩
    · obtain rfl : k = N := by omega
      have e1 : z = -1 := by omega
      subst e1
      have HJ := Lib.hid (And.intro hJ hK)
      clear hJ hK
      gi_wp2
      go_end0
      exact ⟨⟨_, rfl⟩, own, HJ.out.2, .inl ⟨_, rfl, HJ.out.1⟩⟩
end Bu
end Go.Proofs.Ytlknhbcambdccaa
