/- copied of the reference: the walk. -/
import Derived.Test.YtlknhbcambdccaaJZC
import Derived.Deep.RegionLaw
import Derived.Deep.RegionHeld3
import Derived.RegionTactic
namespace Go.Proofs.Ytlknhbcambdccaa
open Go.RowKit
namespace Sl
open Bu

/-- A copy of a saved state. -/
def CopR (B : Nat) (s o kp : Int) (sl : List Slb) (e : Ending) (W : World) : Prop :=
  ∃ A cp q, e = .returned (stv s o kp A sl.length cp) ∧ q.map (·.1) = sl ∧ (∀ (j : Nat) (x : RS), q[j]? = some x → W.ownsRow B 4 1 (.slice (some ⟨x.2.1, 0, none⟩) x.1.us.length x.2.2) x.1.us.length (bcells x.1.us) ∧ A.map (·.block) ≠ some x.2.1) ∧
    q.Pairwise (fun a b => a.2.1 < b.2.1) ∧ OwnR W B A cp q

theorem save_get {sl : List Slb} {k : Nat} {x : Slb} (h : sl[k]? = some x) : (saveS sl)[k]? = some ((x.pg : Int), x.us) := by unfold saveS; rw [List.getElem?_map, h]; rfl

/-- The load of the slice that the statement stores into: under a name of its own, so that the region's walk does not try it first. -/
def opT20 : Op := .load 67 (.tmp 19)
attribute [local go_sem] opT20
theorem copy_below {w w5 : World} (h : ((w.alloc (.cells #[] 4)).drew).grownBy w5 (Value.slice (some ⟨w.heap.size, 0, none⟩) 0 0).ownBlock) : Below w.heap.size w w5 := by
  have hs : ((w.alloc (.cells #[] 4)).drew).heap.size = w.heap.size + 1 := by show (w.alloc _).heap.size = _; simp
  have h1 := h.size
  refine ⟨h.os, h.tape, h.output, by omega, fun z hz => ?_⟩
  refine (h.block z (by omega) ?_).trans (alloc_old _ _ _ hz)
  intro e
  have e : z = w.heap.size := Option.some.inj e
  omega

set_option maxRecDepth 100000 in
set_option maxHeartbeats 8000000 in
theorem copied_ok (w : World) (s o kp : Int) (A0 : Option Addr) (c0 : Nat) (sl : List Slb) (h : SbAt 0 w A0 c0 (saveS sl)) (hne : ∀ x ∈ sl, 1 ≤ x.us.length ∧ x.us.length ≤ 1000) (hlen : sl.length ≤ 2000) :
    Calls Try.prog 69 #[stv s o kp A0 sl.length c0] w fun e w' => CopR w.heap.size s o kp sl e w' ∧ Below w.heap.size w w' := by
  obtain ⟨n, hn⟩ : ∃ n, n = sl.length := ⟨_, rfl⟩
  obtain ⟨W1, hW1⟩ : ∃ W1, W1 = w.alloc (.cells #[.int .i64 s, .int .i64 o, .int .i64 kp, .slice A0 n c0] 69) := ⟨_, rfl⟩
  have hb1 : Below w.heap.size w W1 := by rw [hW1]; exact below_box w _
  have hs1 : W1.heap.size = w.heap.size + 1 := by rw [hW1]; simp
  have hx1 : W1.heap[w.heap.size]? = some (.cells #[.int .i64 s, .int .i64 o, .int .i64 kp, .slice A0 n c0] 69 (0, 0)) := by rw [hW1, heapAlloc, if_pos rfl]
  obtain ⟨x0, x1, x2, x3⟩ := four_at hx1
  have hln := h.1
  have hlm := h.2.1
  rw [saveS_len] at hln
  unfold maxLen at hlm
  have HX := Lib.hid (And.intro (h.below hb1) (And.intro hn (And.intro hb1 (And.intro hx1 (And.intro hs1 (And.intro hne hlen))))))
  have HW := Lib.hid hW1
  have hszl : w.heap.size < W1.heap.size := by omega
  rw [← hn] at hln hlen ⊢
  clear h hn hb1 hx1 hW1 hs1 hne
  go_enter Try.func69, Try.ntmps69
  go_wp2_with (fail)
  rw [← HW.out]
  go_wp2_with (fail)
  obtain ⟨S, hS⟩ : ∃ S, S = w.heap.size + 1 + 1 := ⟨_, rfl⟩
  obtain ⟨W2, hW2⟩ : ∃ W2, W2 = (W1.alloc (.cells #[.int .i64 0, .int .i64 0, .int .i64 0, .slice none 0 0] 69)).alloc (.cells #[.int .i64 s, .int .i64 o, .int .i64 kp, .slice none 0 0] 69) := ⟨_, rfl⟩
  have hSW : S = W1.heap.size + 1 := by rw [hS, HX.out.2.2.2.2.1]
  have hI : CopI W1 S s o kp sl 0 W2 := by
    refine ⟨none, 0, [], rfl, by simp, fun j x hx => by simp at hx, List.Pairwise.nil, World.ownsRow_nil _ _ _ _, ?_, ?_, ?_⟩
    · rw [hW2, hSW, heapAlloc, if_pos (by simp)]
    · rw [hW2, alloc_old _ _ _ (by simp), heapAlloc, if_pos rfl]
    · rw [hW2]; exact ((below_box W1 _).alloc (by simp) _)
  have HI := Lib.hid hI
  rw [← hW2, ← hS]
  have HS := Lib.hid (And.intro hS hSW)
  obtain ⟨i0, z0, hi0, hz0, hz1, hz2, hz3⟩ := info_open slblock_info
  clear hI hW2 hS hSW x0 x1 x2
  go_loopw [4] (fun i wr => ∃ k : Nat, k ≤ n ∧ i = .int .i64 (k : Int) ∧ CopI W1 S s o kp sl k wr) (fun i _ => n - (intOf i).toNat)
  case atStart => exact ⟨0, Nat.zero_le _, rfl, HI.out⟩
  case round =>
    clear HI
    obtain ⟨k, hk, rfl, hI⟩ := hrel
    obtain ⟨A, cp, q, hqk, hq, hu, hpw, hr, hSc, hRc, hb⟩ := hI
    have e0 : (0 : Int) ≤ (k : Int) := by omega
    replace x3 := (hb.cell (p := ⟨w.heap.size, 3, none⟩) hszl).trans x3
    obtain ⟨_, _, _, s3⟩ := four_at hSc
    have sf3 : wr.frozen? ⟨S, 3, none⟩ = false := by simp [World.frozen?, hSc]
    have hSl := lt_of_heap hSc
    by_cases hlt : k < n
    · have e1 : (k : Int) < (n : Int) := by omega
      have hkk : IntKind.i64.wrap ((k : Int) + 1) = ((k + 1 : Nat) : Int) := by rw [IntWalk.i64_in _ (by omega)]; rfl
      obtain ⟨x, hx⟩ : ∃ x, sl[k]? = some x := ⟨_, List.getElem?_eq_getElem (by have := HX.out.2.1; omega)⟩
      obtain ⟨g, oo, U0, cu, rfl, hg, d0, d1, hU⟩ := sb_at HX.out.1 (save_get hx)
      dsimp only at d0 d1 hU
      replace d0 := (hb.cell (p := ⟨g, oo + k * 2, none⟩) hg).trans d0
      replace d1 := (hb.cell (p := ⟨g, oo + k * 2 + 1, none⟩) hg).trans d1
      have hbs := hb.size
      have hUw : BoolAt 0 wr U0 cu x.us := hU.keep hbs fun z _ hz => hb.block z hz
      obtain ⟨p, hp⟩ : ∃ p, p = x.us.length := ⟨_, rfl⟩
      have hpx := HX.out.2.2.2.2.2.1 x (List.mem_of_getElem? hx)
      rw [← hp] at d1 hpx
      have hgr : g < wr.heap.size := by omega
      have hgr1 : g < wr.heap.size + 1 := by omega
      have hBr : w.heap.size < wr.heap.size := by omega
      have hBr1 : w.heap.size < wr.heap.size + 1 := by omega
      have hSl1 : S < wr.heap.size + 1 := by omega
      have hne : some S ≠ (Value.slice A k cp).ownBlock := fun e => by
        have hr' : wr.ownsRow (S + 1) 90 2 (.slice A k cp) k (rcells q) := hqk ▸ hr
        have := (hr'.lt S e.symm).1; omega
      have HNE := Lib.hid hne
      have hr0 : wr.ownsRow (S + 1) 90 2 (.slice A k cp) k (rcells q) := hqk ▸ hr
      have HNB := Lib.hid (show some w.heap.size ≠ (Value.slice A k cp).ownBlock from fun e => by have := (hr0.lt _ e.symm).1; have := HS.out.1; omega)
      have HNG := Lib.hid (show some g ≠ (Value.slice A k cp).ownBlock from fun e => by have := (hr0.lt _ e.symm).1; have := HS.out.2; omega)
      have HNS := Lib.hid (show w.heap.size ≠ S ∧ g ≠ S from ⟨by have := HS.out.1; omega, by have := HS.out.2; omega⟩)
      clear hr0
      have hr' : wr.ownsRow (S + 1) 90 2 (.slice A k cp) k (rcells q) := hqk ▸ hr
      have HJ := Lib.hid (And.intro hqk (And.intro hq (And.intro hu (And.intro hpw (And.intro hr' (And.intro hSc (And.intro hRc (And.intro hb (And.intro hx (And.intro hp hUw))))))))))
      clear hqk hq hu hpw hr hr' hSc hRc hb hx hp hUw hU hne
      go_wp2_with (fail)
      have a0 : (wr.alloc (.cells #[] 4)).cell? ⟨S, 3, none⟩ = some (.slice A k cp) := (World.cell?_alloc_lt wr _ _ hSl).trans s3
      have a1 : (wr.alloc (.cells #[] 4)).cell? ⟨w.heap.size, 3, none⟩ = some (.slice (some ⟨g, oo, none⟩) n c0) := (World.cell?_alloc_lt wr _ _ hBr).trans x3
      have a2 : (wr.alloc (.cells #[] 4)).cell? ⟨g, oo + k * 2, none⟩ = some (.int .i64 (x.pg : Int)) := (World.cell?_alloc_lt wr _ _ hgr).trans d0
      have a3 : (wr.alloc (.cells #[] 4)).cell? ⟨g, oo + k * 2 + 1, none⟩ = some (.slice U0 p cu) := (World.cell?_alloc_lt wr _ _ hgr).trans d1
      rw [show Op.load 67 (.tmp 19) = opT20 from rfl]
      go_region_held3 (fun w' => w'.cell? ⟨w.heap.size, 3, none⟩ = some (.slice (some ⟨g, oo, none⟩) n c0) ∧ w'.cell? ⟨g, oo + k * 2, none⟩ = some (.int .i64 (x.pg : Int)) ∧ w'.cell? ⟨g, oo + k * 2 + 1, none⟩ = some (.slice U0 p cu)) (first | exact ⟨x3, d0, d1⟩ | exact ⟨a1, a2, a3⟩ | exact ⟨b1, b2, b3⟩ | exact ⟨r1, r2, r3⟩ | exact ⟨v1, v2, v3⟩ | exact ⟨y1 _, y2 _, y3 _⟩) (first
        | (refine step_append_bool0 (by rfl) (.tmp 27) (.tmp 33) (by rfl) wr.heap.size (.slice (some ⟨wr.heap.size, 0, none⟩) 0 0) (by rfl) (bool_empty wr _ (Nat.le_refl _)) U0 cu p x.us HJ.out.2.2.2.2.2.2.2.2.2.1 (by rfl) (HJ.out.2.2.2.2.2.2.2.2.2.2.keep (by show wr.heap.size ≤ (wr.alloc _).heap.size; simp) (fun z _ hz => alloc_old _ _ _ hz)) (by omega) (by omega) (by show wr.heap.size ≤ (wr.alloc _).heap.size; simp) ?_
           intro U c5 w5 hown5 hgr5
           have hb5 : Below wr.heap.size wr w5 := copy_below hgr5
           have hS5 : S < w5.heap.size := Nat.lt_of_lt_of_le hSl hb5.size
           have hB5 : w.heap.size < w5.heap.size := Nat.lt_of_lt_of_le hBr hb5.size
           have hg5 : g < w5.heap.size := Nat.lt_of_lt_of_le hgr hb5.size
           have hlt5 : wr.heap.size ≤ w5.heap.size := hb5.size
           have b0 : w5.cell? ⟨S, 3, none⟩ = some (.slice A k cp) := (hb5.cell (p := ⟨S, 3, none⟩) hSl).trans s3
           have b1 : w5.cell? ⟨w.heap.size, 3, none⟩ = some (.slice (some ⟨g, oo, none⟩) n c0) := (hb5.cell (p := ⟨w.heap.size, 3, none⟩) hBr).trans x3
           have b2 : w5.cell? ⟨g, oo + k * 2, none⟩ = some (.int .i64 (x.pg : Int)) := (hb5.cell (p := ⟨g, oo + k * 2, none⟩) hgr).trans d0
           have b3 : w5.cell? ⟨g, oo + k * 2 + 1, none⟩ = some (.slice U0 p cu) := (hb5.cell (p := ⟨g, oo + k * 2 + 1, none⟩) hgr).trans d1
           have sf3' : w5.frozen? ⟨S, 3, none⟩ = false := (hb5.frozen (p := ⟨S, 3, none⟩) hSl).trans sf3
           have r0 : (w5.alloc (.cells #[.int .i64 (x.pg : Int), .slice (some ⟨U, 0, none⟩) p c5] 90)).cell? ⟨S, 3, none⟩ = some (.slice A k cp) := (World.cell?_alloc_lt w5 _ _ hS5).trans b0
           have r1 : (w5.alloc (.cells #[.int .i64 (x.pg : Int), .slice (some ⟨U, 0, none⟩) p c5] 90)).cell? ⟨w.heap.size, 3, none⟩ = some (.slice (some ⟨g, oo, none⟩) n c0) := (World.cell?_alloc_lt w5 _ _ hB5).trans b1
           have r2 : (w5.alloc (.cells #[.int .i64 (x.pg : Int), .slice (some ⟨U, 0, none⟩) p c5] 90)).cell? ⟨g, oo + k * 2, none⟩ = some (.int .i64 (x.pg : Int)) := (World.cell?_alloc_lt w5 _ _ hg5).trans b2
           have r3 : (w5.alloc (.cells #[.int .i64 (x.pg : Int), .slice (some ⟨U, 0, none⟩) p c5] 90)).cell? ⟨g, oo + k * 2 + 1, none⟩ = some (.slice U0 p cu) := (World.cell?_alloc_lt w5 _ _ hg5).trans b3
           have rf3 : (w5.alloc (.cells #[.int .i64 (x.pg : Int), .slice (some ⟨U, 0, none⟩) p c5] 90)).frozen? ⟨S, 3, none⟩ = false := (World.frozen?_alloc_old w5 _ _ (Nat.ne_of_lt hS5)).trans sf3'
           have H5 := Lib.hid (And.intro hown5 hb5)
           clear hown5 hgr5 hb5)
        | (refine step_append_lies _ (by rfl) (.tmp 20) (.tmp 36) _ (by rfl) (S + 1) 90 i0 z0 2 32 Try.underlying67 hi0 hz0 hz1 hz2 hz3 (by omega) (.slice A k cp) k (rcells q) (by rfl) ((row_keep (w' := w5) HJ.out.2.2.2.2.1 (fun z _ hz => H5.out.2.block z hz)).alloc _) ⟨w5.heap.size, 0, none⟩ 1 1 [.int .i64 (x.pg : Int), .slice (some ⟨U, 0, none⟩) p c5] (by rfl) (by rfl) (two_new _ _ _ _) (by simp [Value.oneCell']) (by omega) (by unfold maxLen; omega) (by omega) (by rw [World.size_alloc]; omega) (w5.heap.size + 1) (by simp) ?_
           intro g6 cap6 w6 hown6 hgrow6 hat6 hlt6
           have hB6 := HNB.out
           have hg6n := HNG.out
           have v0 : w6.cell? ⟨S, 3, none⟩ = some (.slice A k cp) := (hgrow6.cell_far ⟨_, _, none⟩ (by rw [World.size_alloc]; show S < _; omega) HNE.out).trans r0
           have v1 : w6.cell? ⟨w.heap.size, 3, none⟩ = some (.slice (some ⟨g, oo, none⟩) n c0) := (hgrow6.cell_far ⟨_, _, none⟩ (by rw [World.size_alloc]; show w.heap.size < _; omega) hB6).trans r1
           have v2 : w6.cell? ⟨g, oo + k * 2, none⟩ = some (.int .i64 (x.pg : Int)) := (hgrow6.cell_far ⟨_, _, none⟩ (by rw [World.size_alloc]; show g < _; omega) hg6n).trans r2
           have v3 : w6.cell? ⟨g, oo + k * 2 + 1, none⟩ = some (.slice U0 p cu) := (hgrow6.cell_far ⟨_, _, none⟩ (by rw [World.size_alloc]; show g < _; omega) hg6n).trans r3
           have vf : w6.frozen? ⟨S, 3, none⟩ = false := (hgrow6.frozen_far ⟨_, _, none⟩ (by rw [World.size_alloc]; show S < _; omega) HNE.out).trans rf3
           have y1 : ∀ v, (w6.setCell ⟨S, 3, none⟩ v).cell? ⟨w.heap.size, 3, none⟩ = some (.slice (some ⟨g, oo, none⟩) n c0) := fun v => (World.cell?_of_block (a := ⟨w.heap.size, 3, none⟩) (setCell_far _ _ _ _ HNS.out.1)).trans v1
           have y2 : ∀ v, (w6.setCell ⟨S, 3, none⟩ v).cell? ⟨g, oo + k * 2, none⟩ = some (.int .i64 (x.pg : Int)) := fun v => (World.cell?_of_block (a := ⟨g, oo + k * 2, none⟩) (setCell_far _ _ _ _ HNS.out.2)).trans v2
           have y3 : ∀ v, (w6.setCell ⟨S, 3, none⟩ v).cell? ⟨g, oo + k * 2 + 1, none⟩ = some (.slice U0 p cu) := fun v => (World.cell?_of_block (a := ⟨g, oo + k * 2 + 1, none⟩) (setCell_far _ _ _ _ HNS.out.2)).trans v3
           have H6 := Lib.hid (And.intro hown6 (And.intro hgrow6 hat6))
           clear hown6 hgrow6 hat6 hB6 hg6n))
      all_goals
        go_wp2_with (fail)
        go_roundw
        case rel =>
          obtain ⟨j1, j2, j3, j4, j5, j6, j7, j8, j9, j10, _⟩ := HJ.out
          exact ⟨k + 1, by omega, by go_num, copy_step HS.out.2 j1 j2 j3 j4 j5 j6 j7 j8 j9 (j10 ▸ H5.out.1) H5.out.2 (j10 ▸ H6.out.1) (j10 ▸ H6.out.2.1) H6.out.2.2⟩
        case measure => simp [intOf]; omega
    · obtain rfl : k = n := by omega
      have e1 : ¬ ((k : Nat) : Int) < (k : Int) := by omega
      obtain ⟨s0, s1, s2, s3⟩ := four_at hSc
      obtain ⟨q0, q1, q2, q3⟩ := four_at hRc
      rw [HX.out.2.2.2.2.1] at q0 q1 q2 q3
      have qf : ∀ o, wr.frozen? ⟨w.heap.size + 1, o, none⟩ = false := fun o => by rw [← HX.out.2.2.2.2.1]; simp [World.frozen?, hRc]
      have qf0 := qf 0
      have qf1 := qf 1
      have qf2 := qf 2
      have qf3 := qf 3
      have HJ := Lib.hid (And.intro hqk (And.intro hq (And.intro hu (And.intro hpw (And.intro hr (And.intro hSc (And.intro hRc hb)))))))
      clear hqk hq hu hpw hr hSc hRc hb qf
      go_wp2_with (fail)
      obtain ⟨hqk, hq, hu, hpw, hr, hSc, hRc, hb⟩ := HJ.out
      have hfin := four_set hRc (.int .i64 s) (.int .i64 o) (.int .i64 kp) (.slice A k cp)
      rw [HX.out.2.2.2.2.1] at hfin
      obtain ⟨q4, q5, q6, q7⟩ := four_at hfin
      refine bodyPost_ret (v := stv s o kp A k cp) (by simp [results, Try.results69, go_sem, q4, q5, q6, q7]) rfl ⟨?_, ?_⟩
      · have hfar : ∀ z, z ≠ w.heap.size + 1 → ((((wr.setCell ⟨w.heap.size + 1, 0, none⟩ (.int .i64 s)).setCell ⟨w.heap.size + 1, 1, none⟩ (.int .i64 o)).setCell ⟨w.heap.size + 1, 2, none⟩ (.int .i64 kp)).setCell ⟨w.heap.size + 1, 3, none⟩ (.slice A k cp)).heap[z]? = wr.heap[z]? := fun z hz => (setCell_far _ _ _ _ hz).trans ((setCell_far _ _ _ _ hz).trans ((setCell_far _ _ _ _ hz).trans (setCell_far _ _ _ _ hz)))
        have hSs := HS.out.1
        have hall : q.map (·.1) = sl := by rw [hq, HX.out.2.1, List.take_length]
        refine ⟨A, cp, q, by rw [HX.out.2.1], hall, fun j x hx => ?_, hpw, row_low (B := S + 1) (row_keep hr fun z h1 h2 => hfar z (by omega)) (by omega)⟩
        obtain ⟨h1, h2⟩ := hu j x hx
        exact ⟨row_low (B := S + 1) (row_keep h1 fun z h1 h2 => hfar z (by omega)) (by omega), h2⟩
      · have hbw := HX.out.2.2.1.trans (hb.mono (by omega))
        exact (((hbw.setCell (p := ⟨w.heap.size + 1, 0, none⟩) (Nat.le_succ _) _).setCell (p := ⟨w.heap.size + 1, 1, none⟩) (Nat.le_succ _) _).setCell (p := ⟨w.heap.size + 1, 2, none⟩) (Nat.le_succ _) _).setCell (p := ⟨w.heap.size + 1, 3, none⟩) (Nat.le_succ _) _
end Sl
end Go.Proofs.Ytlknhbcambdccaa
