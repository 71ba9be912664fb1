/- Slabs of a cache. Caches: Capacity; the calls of a nil cache. Alloc, of a slab that there is. Alloc, where no slab has room: the allocator is full. -/
import Derived.Test.YtlknhbcambdccaaK18
import Derived.StillTailTactics
import Derived.Maps.AppendAt
import Derived.Test.YtlknhbcambdccaaK15
import Derived.Test.YtlknhbcambdccaaK17
import Derived.Deep.CutRange
import Derived.Deep.RegionWith
namespace Go.Proofs.Ytlknhbcambdccaa
open Go.RowKit Go.Shelf
namespace Sl
open Bu

/-- The cells of what Slabs returns. -/
def viewS (l : List Slb) : List Value := l.flatMap fun x => [.int .i64 (x.pg : Int), .int .i64 (x.many : Int)]
theorem viewS_add (l : List Slb) (x : Slb) : viewS (l ++ [x]) = viewS l ++ [.int .i64 (x.pg : Int), .int .i64 (x.many : Int)] := by simp [viewS]
theorem slslab_info : (Try.prog.info? 39).map (fun i => (i.zero.isSome, i.zero.map (fun z => z.cells.size), i.size, i.bytes)) = some (true, some 2, 2, 16) := by kernel_rfl
theorem own_row {w : World} {B T n : Nat} {v : Value} {L : List Value} {k : Nat} (h : w.ownsRow B T k v n L) : ∃ A c, v = .slice A n c := by
  rcases h.2 with ⟨hv, hn⟩ | ⟨g, cp, cur, hv, _⟩
  · exact ⟨none, 0, by rw [hv, hn]⟩
  · exact ⟨_, _, hv⟩

set_option maxRecDepth 100000 in
set_option maxHeartbeats 4000000 in
theorem slabsS_ok (w : World) (own : Own?) (c b : Nat) (C : Ca) (N : Nat) (L : List Blk) (H : Held w own c b C N L) :
    Calls Try.prog 14 #[.pointer (some ⟨c, 0, none⟩)] w fun e w' => (∃ A cp, e = .returned (.tuple #[.slice A C.sl.length cp, .int .i64 0]) ∧ w'.ownsRow w.heap.size 39 2 (.slice A C.sl.length cp) C.sl.length (viewS C.sl)) ∧ Below w.heap.size w w' := by
  obtain ⟨A0, cap, R, hC⟩ := H.at_
  obtain ⟨c0, _, _, _, c4, _⟩ := six_cells hC.cell
  have hsl := ok_len H.ok
  have hul : ∀ x ∈ C.sl, x.us.length ≤ 128 := fun x hx => by rw [H.ok.len x hx]; exact (capa_pos H.ok).2.1
  obtain ⟨n, hn⟩ : ∃ n, n = C.sl.length := ⟨_, rfl⟩
  have hRn : R.length = n := hC.len.trans hn.symm
  rw [hRn] at c4
  rw [← hn] at hsl
  have hcp : n ≤ cap := by
    rcases hC.row.2 with ⟨hv, h0⟩ | ⟨g, cp, cur, hv, _, _, g1, g2, _⟩
    · omega
    · injection hv with _ _ h3; omega
  have HD := Lib.hid (dead_ok w c (some ⟨b, 0, none⟩) c0)
  have hst : C.sl.take 0 = [] := List.take_zero
  have HX := Lib.hid (And.intro hC (And.intro hn (And.intro hRn (And.intro hul H.fresh))))
  obtain ⟨i0, z0, hi0, hz0, hz1, hz2, hz3⟩ := info_open slslab_info
  rw [← hn]
  clear hC H hn hRn c0 hst hul
  go_enter Try.func14, Try.ntmps14
  go_wp2_with (go_at_call 34; refine HD.out.mono ?_; rintro e w' ⟨rfl, rfl⟩)
  clear c4
  go_loopw [4, 14] (fun v i wr => ∃ (k : Nat) (A : Option Addr) (cp : Nat), k ≤ n ∧ i = .int .i64 (k : Int) ∧ v = .slice A k cp ∧ wr.ownsRow w.heap.size 39 2 (.slice A k cp) k (viewS (C.sl.take k)) ∧ Below w.heap.size w wr) (fun _ i _ => n - (intOf i).toNat)
  case atStart => exact ⟨0, none, 0, Nat.zero_le _, rfl, rfl, World.ownsRow_nil _ _ _ _, Below.refl _ _⟩
  case round =>
    obtain ⟨k, A, cp, hk, rfl, rfl, hr, hb⟩ := hrel
    have e0 : (0 : Int) ≤ (k : Int) := by omega
    by_cases hlt : k < n
    · have e1 : (k : Int) < (n : Int) := by omega
      have hC := HX.out.1
      obtain ⟨x, hx⟩ : ∃ x, C.sl[k]? = some x := ⟨_, List.getElem?_eq_getElem (by have := HX.out.2.1; omega)⟩
      obtain ⟨p, hp⟩ : ∃ p, R[k]? = some p := ⟨_, List.getElem?_eq_getElem (by have := HX.out.2.2.1; omega)⟩
      obtain ⟨u, uc, hs⟩ := hC.slab k p x hp hx
      obtain ⟨g, rfl⟩ : ∃ g, A0 = some ⟨g, 0, none⟩ := by
        rcases hC.row.2 with ⟨_, h0⟩ | ⟨g, cp, cur, hv, _⟩
        · have := (List.getElem?_eq_some_iff.1 hp).1; omega
        · injection hv with hv; exact ⟨g, hv⟩
      have r0 : wr.cell? ⟨g, k, none⟩ = some (.pointer (some ⟨p, 0, none⟩)) := (World.cell?_of_block (a := ⟨g, k, none⟩) (hb.block g (HX.out.2.2.2.2 g (by rw [hC.ownG g rfl]; simp)))).trans (row_cell hC.row (i := k) (v := .pointer (some ⟨p, 0, none⟩)) (by unfold ptrs; rw [List.getElem?_map, hp]; rfl))
      obtain ⟨p0, _, p2, _⟩ := three_cells ((hb.block p (HX.out.2.2.2.2 p (by rw [hs.ownP]; simp))).trans hs.cell)
      have hkk : IntKind.i64.wrap ((k : Int) + 1) = ((k + 1 : Nat) : Int) := by rw [IntWalk.i64_in _ (by omega)]; rfl
      obtain ⟨obx, hobx⟩ : ∃ obx, C.sl.take (k + 1) = obx ∧ viewS obx = viewS (C.sl.take k) ++ [.int .i64 (x.pg : Int), .int .i64 (x.many : Int)] := by
        obtain ⟨hk2, he⟩ := List.getElem?_eq_some_iff.1 hx
        exact ⟨_, rfl, by rw [List.take_succ_eq_append_getElem hk2, he, viewS_add]⟩
      obtain ⟨m, hm⟩ : ∃ m, m = x.many := ⟨_, rfl⟩
      obtain ⟨pre, hpre⟩ : ∃ pre, pre = viewS (C.sl.take k) := ⟨_, rfl⟩
      rw [← hm] at p2 hobx
      rw [← hpre] at hr hobx
      have hrd : (wr.alloc (.cells #[.int .i64 (x.pg : Int), .int .i64 (m : Int)] 39)).drew.ownsRow w.heap.size 39 2 (.slice A k cp) k pre := row_keep hr fun z _ hz => alloc_old _ _ _ hz
      have HNW := Lib.hid (show ∀ j u, [Value.int .i64 (x.pg : Int), .int .i64 (m : Int)][j]? = some u → (wr.alloc (.cells #[.int .i64 (x.pg : Int), .int .i64 (m : Int)] 39)).drew.cell? ((⟨wr.heap.size, 0, none⟩ : Addr).add j) = some u from fun j u hu => two_new wr _ _ _ j u hu)
      have HSD := Lib.hid (show (wr.alloc (.cells #[.int .i64 (x.pg : Int), .int .i64 (m : Int)] 39)).drew.heap.size = wr.heap.size + 1 by show (wr.alloc _).heap.size = _; simp)
      have hsz := hb.size
      have HJ := Lib.hid (And.intro hb hobx)
      have HRD := Lib.hid hrd
      clear hrd hb hobx hx hp hC hs hm hpre hr
      go_wp2_with (fail)
      go_region_law ((refine step_append_lies _ (by rfl) (.tmp 18) (.tmp 28) _ (by rfl) w.heap.size 39 i0 z0 2 16 Try.underlying30 hi0 hz0 hz1 hz2 hz3 (by omega) (.slice A k cp) k pre (by rfl) HRD.out ⟨wr.heap.size, 0, none⟩ 1 1 [.int .i64 (x.pg : Int), .int .i64 (m : Int)] (by rfl) (by rfl) HNW.out (by simp [Value.oneCell']) (by omega) (by unfold maxLen; omega) (by omega) (by rw [HSD.out]; omega) (wr.heap.size + 1) HSD.out ?_; intro g6 cap6 w6 hown6 hgrow6 hat6 hlt6; have H6 := Lib.hid (And.intro hown6 hgrow6); clear hown6 hgrow6 hat6 hlt6))
      all_goals
        go_wp2_with (fail)
        go_roundw
        case rel =>
          refine ⟨k + 1, _, _, by omega, by go_num, rfl, ?_, ?_⟩
          · rw [HJ.out.2.1, HJ.out.2.2]
            exact row_keep H6.out.1 fun _ _ _ => rfl
          · have hb := HJ.out.1
            refine ((hb.alloc (by omega) (.cells #[.int .i64 (x.pg : Int), .int .i64 (m : Int)] 39)).drew.grown H6.out.2 (by rw [HSD.out]; omega) fun z hz => ?_)
            exact (HRD.out.lt z hz).1
        case measure => simp [intOf]; omega
    · obtain rfl : k = n := by omega
      have e1 : ¬ ((k : Nat) : Int) < (k : Int) := by omega
      have HJ := Lib.hid (And.intro hr hb)
      clear hr hb
      go_wp2
      go_ret2
      obtain ⟨hr, hb⟩ := HJ.out
      rw [HX.out.2.1, List.take_length, ← HX.out.2.1] at hr
      exact ⟨⟨A, cp, rfl, hr⟩, hb⟩
end Sl
end Go.Proofs.Ytlknhbcambdccaa
namespace Go.Proofs.Ytlknhbcambdccaa
open Go.RowKit
namespace Sl
open Bu

set_option maxRecDepth 100000 in
set_option maxHeartbeats 1000000 in
theorem capacityS_ok (w : World) (c size order : Nat) (p : Option Addr) (h0 : w.cell? ⟨c, 0, none⟩ = some (.pointer p)) (hp : p.isNone = false) (h1 : w.cell? ⟨c, 1, none⟩ = some (.int .i64 (size : Int))) (h2 : w.cell? ⟨c, 2, none⟩ = some (.int .i64 (order : Int))) (hs : 8 ≤ size) (ho : order ≤ 4) :
    Calls Try.prog 29 #[.pointer (some ⟨c, 0, none⟩)] w fun e w' => e = .returned (.tuple #[.int .i64 (capa size order : Int), .int .i64 0]) ∧ ∃ n, w' = w.drewN n := by
  have hd := dead_ok w c p h0
  rw [hp] at hd
  have HD := Lib.hid hd
  have HC := Lib.hid (capacity_ok w c size order h1 h2 hs ho)
  obtain ⟨cp, hcp⟩ : ∃ cp, cp = capa size order := ⟨_, rfl⟩
  rw [← hcp] at HC ⊢
  clear hd hcp h0 h1 h2
  go_enter Try.func29, Try.ntmps29
  go_wp2_with (first | (go_at_call 34; refine HD.out.mono ?_; rintro e w' ⟨rfl, rfl⟩) | (go_at_call 40; refine HC.out.mono ?_; rintro e w' ⟨rfl, d, rfl⟩))
  go_ret2
  exact ⟨rfl, _, rfl⟩

set_option maxRecDepth 100000 in
theorem capacityS_nil (w : World) : Calls Try.prog 29 #[.pointer none] w fun e w' => e = .returned (.tuple #[.int .i64 0, .int .i64 1]) ∧ w = w' := by
  have HD := Lib.hid (dead_nil w)
  go_enter Try.func29, Try.ntmps29
  go_wp2_with (go_at_call 34; refine HD.out.mono ?_; rintro e w' ⟨rfl, rfl⟩)
  go_ret2
  exact ⟨rfl, rfl⟩
set_option maxRecDepth 100000 in
theorem trim_nil (w : World) : Calls Try.prog 20 #[.pointer none] w fun e w' => e = .returned (.tuple #[.int .i64 0, .int .i64 1]) ∧ w = w' := by
  have HD := Lib.hid (dead_nil w)
  go_enter Try.func20, Try.ntmps20
  go_wp2_with (go_at_call 34; refine HD.out.mono ?_; rintro e w' ⟨rfl, rfl⟩)
  go_ret2
  exact ⟨rfl, rfl⟩
set_option maxRecDepth 100000 in
theorem slabs_nil (w : World) : Calls Try.prog 14 #[.pointer none] w fun e w' => e = .returned (.tuple #[.slice none 0 0, .int .i64 1]) ∧ w = w' := by
  have HD := Lib.hid (dead_nil w)
  go_enter Try.func14, Try.ntmps14
  go_wp2_with (go_at_call 34; refine HD.out.mono ?_; rintro e w' ⟨rfl, rfl⟩)
  go_ret2
  exact ⟨rfl, rfl⟩
end Sl
end Go.Proofs.Ytlknhbcambdccaa
namespace Go.Proofs.Ytlknhbcambdccaa
open Go.RowKit
namespace Sl
open Bu

/-- The slab that was selected, by its block. -/
def selP (R : List Nat) : Option (Nat × Nat) → Option (Nat × Nat)
  | some (j, m) => some (R.getD j 0, m)
  | none => none

/-- What is so while the slabs are considered. -/
structure LoopI (W1 : World) (B : Nat) (R : List Nat) (l : List Slb) (k : Nat) (w : World) : Prop where
  only : OnlyB (some B) W1 w
  box : w.heap[B]? = some (.cells #[.pointer (bestP (selP R (pickS 0 none (l.take k))))] 97 (0, 0))

theorem LoopI.next {W1 w w' : World} {B k p : Nat} {R : List Nat} {l : List Slb} {x : Slb} {e : Ending} (h : LoopI W1 B R l k w) (hp : R[k]? = some p) (hx : l[k]? = some x) (hr : ConsR p x.many x.us.length B (selP R (pickS 0 none (l.take k))) w e w') :
    e = .returned (.tuple #[]) ∧ LoopI W1 B R l (k + 1) w' := by
  obtain ⟨he, d, hw⟩ := hr
  refine ⟨he, ?_⟩
  have hst := pickS_take hx
  have hpd : R.getD k 0 = p := by rw [List.getD_eq_getElem?_getD, hp]; rfl
  by_cases hc : x.many < x.us.length ∧ (∀ q, pickS 0 none (l.take k) = some q → q.2 < x.many)
  · have hc2 : x.many < x.us.length ∧ (∀ q, selP R (pickS 0 none (l.take k)) = some q → q.2 < x.many) := by
      refine ⟨hc.1, fun q hq => ?_⟩
      cases e2 : pickS 0 none (l.take k) with
      | none => rw [e2] at hq; cases hq
      | some y =>
        rw [e2] at hq
        obtain ⟨y1, y2⟩ := y
        injection hq with hq
        rw [← hq]
        exact hc.2 (y1, y2) e2
    rw [if_pos hc2] at hw
    subst hw
    refine ⟨⟨h.only.os, h.only.tape, h.only.output, by rw [setCell_size]; exact h.only.size, fun z hz => (setCell_far _ _ _ _ (fun e => hz (by rw [e]))).trans (h.only.block z hz)⟩, ?_⟩
    rw [hst]
    unfold stepS
    rw [if_pos hc]
    show _ = some (Obj.cells #[.pointer (some ⟨R.getD k 0, 0, none⟩)] _ _)
    rw [hpd]
    exact setCell_at (w.drewN d) B 0 _ _ _ h.box
  · have hc2 : ¬ (x.many < x.us.length ∧ (∀ q, selP R (pickS 0 none (l.take k)) = some q → q.2 < x.many)) := by
      rintro ⟨g1, g2⟩
      refine hc ⟨g1, fun q hq => ?_⟩
      obtain ⟨q1, q2⟩ := q
      exact g2 (R.getD q1 0, q2) (by rw [hq]; rfl)
    rw [if_neg hc2] at hw
    subst hw
    refine ⟨⟨h.only.os, h.only.tape, h.only.output, h.only.size, h.only.block⟩, ?_⟩
    rw [hst]
    unfold stepS
    rw [if_neg hc]
    exact h.box

set_option maxRecDepth 100000 in
set_option maxHeartbeats 8000000 in
theorem alloc_some (w : World) (own : Own?) (c b : Nat) (C : Ca) (N : Nat) (L : List Blk) (H : Held w own c b C N L) (j m : Nat) (x : Slb) (hpick : pickS 0 none C.sl = some (j, m)) (hx : C.sl[j]? = some x) :
    Calls Try.prog 12 #[.pointer (some ⟨c, 0, none⟩)] w fun e w' => e = .returned (.tuple #[.int .i64 (addrS C.size x (freeI x.us) : Int), .int .i64 0]) ∧ Held w' own c b { C with sl := setS C.sl j (freeI x.us) true } N L ∧ Keeps own own w w' := by
  obtain ⟨A, cap, R, hC⟩ := H.at_
  have hcl := lt_of_heap hC.cell
  obtain ⟨W1, hW1⟩ : ∃ W1, W1 = w.alloc (.cells #[.pointer none] 97) := ⟨_, rfl⟩
  have hb1 : Below w.heap.size w W1 := by rw [hW1]; exact below_box w _
  have hs1 : W1.heap.size = w.heap.size + 1 := by rw [hW1]; simp
  have hB1 : W1.heap[w.heap.size]? = some (.cells #[.pointer none] 97 (0, 0)) := by rw [hW1, heapAlloc, if_pos rfl]
  have H1 : Held W1 own c b C N L := H.below hb1
  have hC1 : CacheAt W1 own c b C (emptyS C.sl) A cap R := hC.same (fun k _ _ hl => hb1.block k hl) (fun _ _ _ => rfl) rfl
  obtain ⟨_, _, _, _, c4, _, _, _⟩ := six_cells hC.cell
  have hdead := dead_ok w c (some ⟨b, 0, none⟩) (six_cells hC.cell).1
  have HD := Lib.hid hdead
  obtain ⟨n, hn⟩ : ∃ n, n = R.length := ⟨_, rfl⟩
  have hnl : n = C.sl.length := hn.trans hC.len
  rw [← hn] at c4
  have hcap : n ≤ cap ∧ cap ≤ maxLen := by
    rcases hC.row.2 with ⟨hv, h0⟩ | ⟨g, cp, cur, hv, _, _, g1, g2, _⟩
    · injection hv with _ _ h3; unfold maxLen; omega
    · injection hv with _ _ h3; rw [hn, h3]; exact ⟨g1, g2⟩
  obtain ⟨hcap1, hcap2⟩ := hcap
  unfold maxLen at hcap2
  have hBn : own w.heap.size = none := by
    cases e : own w.heap.size with
    | none => rfl
    | some v => exact absurd (H.fresh _ (by rw [e]; simp)) (by omega)
  have HX := Lib.hid (And.intro H1 (And.intro hC1 (And.intro hb1 (And.intro hBn (And.intro hn hnl)))))
  have HL0 := Lib.hid (show LoopI W1 w.heap.size R C.sl 0 W1 from ⟨⟨rfl, rfl, rfl, rfl, fun _ _ => rfl⟩, hB1⟩)
  have HW := Lib.hid hW1
  have HH := Lib.hid H
  clear H hC H1 hC1 hb1 hB1 hW1 hdead hBn hn hnl
  have heq : ∀ (w : World) (p : Option Addr), (Op.equalIn 10000 97 (.pointer p) (.pointer none)).run Try.prog w = .ok p.isNone w := fun w p => run_equalIn_ptr_nil Try.prog w 9999 97 _ p Try.underlying97
  have heq2 := fun w p => run_eql_ptr_nil Try.prog w 97 _ p Try.underlying97
  go_enter Try.func12, Try.ntmps12
  go_wp2_with (go_at_call 34; refine HD.out.mono ?_; rintro e w' ⟨rfl, rfl⟩)
  rw [← HW.out]
  clear c4
  go_loopw [7, 19] (fun _ i wr => ∃ k : Nat, k ≤ n ∧ i = .int .i64 (k : Int) ∧ LoopI W1 w.heap.size R C.sl k wr) (fun _ i _ => n - (intOf i).toNat)
  case atStart => exact ⟨0, Nat.zero_le _, rfl, HL0.out⟩
  case round =>
    obtain ⟨k, hk, rfl, hI⟩ := hrel
    have HI := Lib.hid hI
    clear hI
    have e0 : (0 : Int) ≤ (k : Int) := by omega
    have hkeep : ∀ k', k' ≠ w.heap.size → wr.heap[k']? = W1.heap[k']? := fun k' hk' => HI.out.only.block k' (fun e => hk' (by injection e with e; exact e.symm))
    have HK := Lib.hid hkeep
    clear hkeep
    by_cases hlt : k < n
    · have e1 : (k : Int) < (n : Int) := by omega
      obtain ⟨p, hp⟩ : ∃ p, R[k]? = some p := ⟨_, List.getElem?_eq_getElem (by have := HX.out.2.2.2.2.1; omega)⟩
      obtain ⟨x, hx⟩ : ∃ x, C.sl[k]? = some x := ⟨_, List.getElem?_eq_getElem (by have := HX.out.2.2.2.2.2; omega)⟩
      obtain ⟨u, uc, hs⟩ := HX.out.2.1.slab k p x hp hx
      have hkk : IntKind.i64.wrap ((k : Int) + 1) = ((k + 1 : Nat) : Int) := by rw [IntWalk.i64_in _ (by omega)]; rfl
      have hslb : ∀ (j q : Nat) (y : Slb), R[j]? = some q → C.sl[j]? = some y → wr.cell? ⟨q, 2, none⟩ = some (.int .i64 (y.many : Int)) ∧ ∃ U uc, wr.cell? ⟨q, 1, none⟩ = some (.slice U y.us.length uc) := by
        intro j q y hq hy
        obtain ⟨u, uc, hs⟩ := HX.out.2.1.slab j q y hq hy
        have hqB : q ≠ w.heap.size := fun e => by have := hs.ownP; rw [e, HX.out.2.2.2.1] at this; cases this
        obtain ⟨_, g1, g2, _⟩ := three_cells ((HK.out q hqB).trans hs.cell)
        exact ⟨g2, _, _, g1⟩
      obtain ⟨m2, U, uc', m1⟩ := hslb k p x hp hx
      obtain ⟨bx, bf⟩ := Bu.one_cell HI.out.box
      have hcon := consider_ok wr p x.many x.us.length uc' w.heap.size U (selP R (pickS 0 none (C.sl.take k))) m1 m2 bx bf (fun q mq hq => by
        cases e2 : pickS 0 none (C.sl.take k) with
        | none => rw [e2] at hq; cases hq
        | some y =>
          obtain ⟨y1, y2⟩ := y
          rw [e2] at hq
          injection hq with hq
          injection hq with h1 h2
          obtain ⟨z, hz, hzm, _, hzk⟩ := pickS_some (by have := HX.out.2.2.2.2.2; omega) e2
          obtain ⟨q', hq'⟩ : ∃ q', R[y1]? = some q' := ⟨_, List.getElem?_eq_getElem (by have := HX.out.2.2.2.2.1; omega)⟩
          have h3 : q = q' := by rw [← h1, List.getD_eq_getElem?_getD, hq']; rfl
          rw [h3, ← h2, ← hzm]
          exact (hslb y1 q' z hq' hz).1)
      have HC := Lib.hid hcon
      obtain ⟨g, hA⟩ : ∃ g, A = some ⟨g, 0, none⟩ := by
        rcases HX.out.2.1.row.2 with ⟨_, h0⟩ | ⟨g, cp, cur, hv, _⟩
        · have := HX.out.2.2.2.2.1; omega
        · injection hv with hv; exact ⟨g, hv⟩
      have hrow := HX.out.2.1.row
      have hgo := HX.out.2.1.ownG
      subst hA
      have hgB : g ≠ w.heap.size := fun e => by have := hgo g rfl; rw [e, HX.out.2.2.2.1] at this; cases this
      have hgc := (World.cell?_of_block (a := ⟨g, k, none⟩) (HK.out g hgB)).trans (row_cell hrow (i := k) (v := .pointer (some ⟨p, 0, none⟩)) (by unfold ptrs; rw [List.getElem?_map, hp]; rfl))
      have HP := Lib.hid (And.intro hp hx)
      clear hcon hslb hs hp hx bx bf hrow hgo m1 m2
      go_wp2_with (go_at_call 38; refine HC.out.mono ?_; intro e w6 hr; obtain ⟨rfl, hI6⟩ := HI.out.next HP.out.1 HP.out.2 hr; have H6 := Lib.hid hI6; clear hI6 hr)
      go_roundw
      case rel => exact ⟨k + 1, by omega, by go_num, H6.out⟩
      case measure => simp [intOf]; omega
    · obtain rfl : k = n := by omega
      have e1 : ¬ ((k : Nat) : Int) < (k : Int) := by omega
      have htk : C.sl.take k = C.sl := List.take_of_length_le (by have := HX.out.2.2.2.2.2; omega)
      have hbox := HI.out.box
      rw [htk] at hbox
      clear htk
      rw [hpick] at hbox
      obtain ⟨x', hx', hxm, hmn, hjk⟩ := pickS_some (l := C.sl) (k := C.sl.length) (Nat.le_refl _) (by rw [List.take_length]; exact hpick)
      obtain rfl : x = x' := by rw [hx] at hx'; injection hx'
      obtain ⟨p, hp⟩ : ∃ p, R[j]? = some p := ⟨_, List.getElem?_eq_getElem (by have := HX.out.2.1.len; omega)⟩
      have hbp : bestP (selP R (some (j, m))) = some ⟨p, 0, none⟩ := by show some (⟨R.getD j 0, 0, none⟩ : Addr) = _; rw [List.getD_eq_getElem?_getD, hp]; rfl
      rw [hbp] at hbox
      obtain ⟨bx, bf⟩ := Bu.one_cell hbox
      obtain ⟨u, ucap, hs⟩ := HX.out.2.1.slab j p x hp hx
      have hpB : p ≠ w.heap.size := fun e => by have := hs.ownP; rw [e, HX.out.2.2.2.1] at this; cases this
      have huB : u ≠ w.heap.size := fun e => by have := hs.ownU; rw [e, HX.out.2.2.2.1] at this; cases this
      have hcB : c ≠ w.heap.size := fun e => by have := HX.out.2.1.ownC; rw [e, HX.out.2.2.2.1] at this; cases this
      have hpc : p ≠ c := fun e => by have := hs.ownP; rw [e, HX.out.2.1.ownC] at this; cases this
      have huc : u ≠ c := fun e => by have := hs.ownU; rw [e, HX.out.2.1.ownC] at this; injection this with this; omega
      have hup : u ≠ p := fun e => by have := hs.ownU; rw [e, hs.ownP] at this; injection this with this; omega
      have hmP := (HK.out p hpB).trans hs.cell
      have hmC := (HK.out c hcB).trans HX.out.2.1.cell
      have hrU : wr.ownsRow 0 4 1 (.slice (some ⟨u, 0, none⟩) x.us.length ucap) x.us.length (bcells x.us) := row_same hs.row fun g hg => HK.out g (fun e => huB (by injection hg with hg; exact hg.trans e))
      obtain ⟨hfi, hfv⟩ := freeI_lt (x := x) (by omega)
      obtain ⟨fi, hfe⟩ : ∃ fi, fi = freeI x.us := ⟨_, rfl⟩
      have hidx : ∀ W : World, W.ownsRow 0 4 1 (.slice (some ⟨u, 0, none⟩) x.us.length ucap) x.us.length (bcells x.us) → Calls Try.prog 42 #[.slice (some ⟨u, 0, none⟩) x.us.length ucap, .bool false] W fun e w' => e = .returned (.int .i64 (fi : Int)) ∧ W = w' := fun W hW => by
        have := index_ok W u ucap x.us hW
        rw [if_pos hfi, ← hfe] at this
        exact this
      rw [← hfe] at hfi hfv
      have HFE := Lib.hid hfe
      have hul : x.us.length ≤ 128 := by rw [HX.out.1.ok.len x (List.mem_of_getElem? hx)]; exact (capa_pos HX.out.1.ok).2.1
      have hpg : x.pg ≤ 1024 := by
        have := st_le HX.out.1.ok.st _ (HX.out.1.ok.giv x (List.mem_of_getElem? hx))
        have h2 : x.pg + 2 ^ C.order ≤ 1024 := this.2
        have := pow_pos2 C.order
        omega
      obtain ⟨hsz8, hsz, _⟩ := HX.out.1.ok.sz
      have hmle := many_le x
      obtain ⟨e, hee⟩ : ∃ e, e = emptyS C.sl := ⟨_, rfl⟩
      rw [← hee] at hmC
      have hel : e ≤ C.sl.length := by rw [hee]; exact List.length_filter_le _ _
      have hle2 : C.sl.length ≤ 1024 := by
        have h1 := HX.out.1.ok
        have key : ∀ (l : List Slb), l.Pairwise (fun a b => a.pg < b.pg) → ∀ s, (∀ y ∈ l, s ≤ y.pg ∧ y.pg < 1024) → s ≤ 1024 → l.length + s ≤ 1024 := by
          intro l
          induction l with
          | nil => intro _ s _ h; simpa using h
          | cons y l ih =>
            intro hp s hb hs
            rw [List.pairwise_cons] at hp
            have hy := hb y (List.mem_cons_self ..)
            have := ih hp.2 (y.pg + 1) (fun z hz => ⟨hp.1 z hz, (hb z (List.mem_cons_of_mem _ hz)).2⟩) (by omega)
            rw [List.length_cons]; omega
        have := key C.sl h1.asc 0 (fun y hy => ⟨Nat.zero_le _, by
          have h2 := st_le h1.st _ (h1.giv y hy)
          have h3 : y.pg + 2 ^ C.order ≤ 1024 := h2.2
          have := pow_pos2 C.order
          omega⟩) (by omega)
        omega
      have hes := empty_set (x := x) (y := ⟨x.pg, x.us.set fi true⟩) hx
      have hcnt : (x.us.set fi true).count true = m + 1 := by
        have := count_set (us := x.us) (i := fi) (v := true) hfv
        rw [this, if_pos rfl, ← hxm]; rfl
      have hmany : (⟨x.pg, x.us.set fi true⟩ : Slb).many = m + 1 := hcnt
      rw [hmany, hxm, ← hee] at hes
      have hm1 : IntKind.i64.wrap ((m : Int) + 1) = ((m + 1 : Nat) : Int) := by rw [IntWalk.i64_in _ (by omega)]; rfl
      have e2 : (0 : Int) ≤ (fi : Int) := by omega
      have e3 : (fi : Int) < (x.us.length : Int) := by omega
      have hset := setS_eq (i := fi) (v := true) hx
      rw [hxm] at hmP
      have HS := Lib.hid (And.intro hs (And.intro hp (And.intro hx (And.intro hcnt (And.intro hset (And.intro hmP (And.intro hmC (And.intro hrU (And.intro hee hes)))))))))
      have HId := Lib.hid hidx
      obtain ⟨p0, p1, p2, pf⟩ := three_cells hmP
      obtain ⟨c0, c1, c2, c3, c4, c5, _, f5⟩ := six_cells hmC
      have u1 := row_cell hrU (i := fi) (v := .bool false) (by rw [bcells_get, hfv]; rfl)
      have u2 := row_frozen hrU fi
      clear hs hp hx hcnt hset hmP hmC hrU hee hes hidx hfv hfe hmany hbp hbox hx' hpick
      by_cases hm0 : m = 0
      · have t1 : ((m : Int) == 0) = true := by simp [hm0]
        obtain ⟨e', he'⟩ : ∃ e' : Nat, e' + 1 = e := ⟨e - 1, by have := HS.out.2.2.2.2.2.2.2.2.2; rw [if_pos hm0] at this; simp at this; omega⟩
        have hdec : IntKind.i64.wrap ((e : Int) - 1) = (e' : Int) := by rw [IntWalk.i64_in _ (by omega)]; omega
        have HM := Lib.hid (And.intro hm0 he')
        clear hm0 he'
        have nC2 : (wr.setCell ⟨c, 5, none⟩ (.int .i64 (e' : Int))).heap[c]? = some (.cells #[.pointer (some ⟨b, 0, none⟩), .int .i64 (C.size : Int), .int .i64 (C.order : Int), .int .i64 (C.keep : Int), .slice A R.length cap, .int .i64 (e' : Int)] 78 (0, 0)) := setCell_at wr c 5 _ _ _ HS.out.2.2.2.2.2.2.1
        have nU2 : (wr.setCell ⟨c, 5, none⟩ (.int .i64 (e' : Int))).ownsRow 0 4 1 (.slice (some ⟨u, 0, none⟩) x.us.length ucap) x.us.length (bcells x.us) := row_same HS.out.2.2.2.2.2.2.2.1 fun g hg => setCell_far _ _ _ _ (by injection hg with hg; show g ≠ c; rw [← hg]; exact huc)
        have nP2 : (wr.setCell ⟨c, 5, none⟩ (.int .i64 (e' : Int))).heap[p]? = _ := (setCell_far _ _ _ _ hpc).trans HS.out.2.2.2.2.2.1
        have nC4 : (((wr.setCell ⟨c, 5, none⟩ (.int .i64 (e' : Int))).setCell ⟨u, fi, none⟩ (.bool true)).setCell ⟨p, 2, none⟩ (.int .i64 ((m + 1 : Nat) : Int))).heap[c]? = _ := (setCell_far _ _ _ _ hpc.symm).trans ((setCell_far _ _ _ _ huc.symm).trans nC2)
        have nU4 := row_same (row_set nU2 (v := .bool true) hfi) (w' := (((wr.setCell ⟨c, 5, none⟩ (.int .i64 (e' : Int))).setCell ⟨u, fi, none⟩ (.bool true)).setCell ⟨p, 2, none⟩ (.int .i64 ((m + 1 : Nat) : Int)))) fun g hg => setCell_far _ _ _ _ (by injection hg with hg; show g ≠ p; rw [← hg]; exact hup)
        have nP4 := setCell_at ((wr.setCell ⟨c, 5, none⟩ (.int .i64 (e' : Int))).setCell ⟨u, fi, none⟩ (.bool true)) p 2 _ _ (.int .i64 ((m + 1 : Nat) : Int)) ((setCell_far _ _ _ _ hup.symm).trans nP2)
        have hadr := address_ok (((wr.setCell ⟨c, 5, none⟩ (.int .i64 (e' : Int))).setCell ⟨u, fi, none⟩ (.bool true)).setCell ⟨p, 2, none⟩ (.int .i64 ((m + 1 : Nat) : Int))) c p C.size x.pg fi (six_cells nC4).2.1 (three_cells nP4).1 hsz hpg (by omega)
        have HAd := Lib.hid hadr
        have HT := Lib.hid (And.intro nU2 (And.intro nC4 (And.intro nU4 nP4)))
        clear nC2 nU2 nP2 nC4 nU4 nP4 hadr
        go_wp2_with (first
          | (go_at_call 42; refine (HId.out _ HT.out.1).mono ?_; rintro e w' ⟨rfl, rfl⟩)
          | (go_at_call 43; refine HAd.out.mono ?_; rintro e w' ⟨rfl, d, rfl⟩))
        go_ret2
        have hes := HS.out.2.2.2.2.2.2.2.2.2
        have hset := HS.out.2.2.2.2.1
        rw [if_neg (Nat.succ_ne_zero m), Nat.add_zero, ← hset] at hes
        have hem : emptyS (setS C.sl j fi true) = e' := by have := HM.out; rw [if_pos this.1] at hes; omega
        have hfar : ∀ k, k ≠ c → k ≠ p → k ≠ u → k ≠ w.heap.size → ((((wr.setCell ⟨c, 5, none⟩ (.int .i64 (e' : Int))).setCell ⟨u, fi, none⟩ (.bool true)).setCell ⟨p, 2, none⟩ (.int .i64 ((m + 1 : Nat) : Int))).drewN d).heap[k]? = W1.heap[k]? := fun k h1 h2 h3 h4 => (setCell_far _ _ _ _ h2).trans ((setCell_far _ _ _ _ h3).trans ((setCell_far _ _ _ _ h1).trans (HK.out k h4)))
        have hown : ∀ k, own k ≠ none → k ≠ w.heap.size := fun k h e2 => h (by rw [e2]; exact HX.out.2.2.2.1)
        have hsz : ((((wr.setCell ⟨c, 5, none⟩ (.int .i64 (e' : Int))).setCell ⟨u, fi, none⟩ (.bool true)).setCell ⟨p, 2, none⟩ (.int .i64 ((m + 1 : Nat) : Int))).drewN d).heap.size = W1.heap.size := by show (((wr.setCell ⟨c, 5, none⟩ (.int .i64 (e' : Int))).setCell ⟨u, fi, none⟩ (.bool true)).setCell ⟨p, 2, none⟩ (.int .i64 ((m + 1 : Nat) : Int))).heap.size = _; rw [setCell_size, setCell_size, setCell_size]; exact HI.out.only.size
        have hs := HS.out.1
        have hC2 := cache_set (w' := (((wr.setCell ⟨c, 5, none⟩ (.int .i64 (e' : Int))).setCell ⟨u, fi, none⟩ (.bool true)).setCell ⟨p, 2, none⟩ (.int .i64 ((m + 1 : Nat) : Int))).drewN d) (i := fi) (v := true) (m' := m + 1) (e' := e') HX.out.2.1 HS.out.2.1 HS.out.2.2.1 hs HT.out.2.1 HT.out.2.2.2 (by rw [show bcells (x.us.set fi true) = (bcells x.us).set fi (.bool true) from List.map_set]; exact row_same HT.out.2.2.1 fun _ _ => rfl) HS.out.2.2.2.1.symm (fun k h1 h2 h3 h4 _ => hfar k h2 h3 h4 (hown k h1))
        rw [← HFE.out]
        refine ⟨rfl, ⟨⟨A, cap, R, ?_⟩, ?_, ?_, ?_⟩, ?_⟩
        · show CacheAt _ own c b _ (emptyS (setS C.sl j fi true)) A cap R
          rw [hem]; exact hC2
        · have hob := HX.out.2.1.ownB
          refine HX.out.1.bu.keep (hfar b (fun e2 => ?_) (fun e2 => ?_) (fun e2 => ?_) (hown b (by rw [hob]; simp)))
          · rw [e2, HX.out.2.1.ownC] at hob; cases hob
          · rw [e2, hs.ownP] at hob; cases hob
          · rw [e2, hs.ownU] at hob; injection hob with hob; omega
        · exact ok_set HX.out.1.ok HS.out.2.2.1 (by rw [hem]; have := HX.out.1.ok.emp; have := HS.out.2.2.2.2.2.2.2.2.1; omega)
        · intro k hk2
          have := HX.out.1.fresh k hk2
          exact Nat.lt_of_lt_of_eq this hsz.symm
        · refine ⟨?_, ?_, ?_, Nat.le_trans (show w.heap.size ≤ W1.heap.size by omega) (Nat.le_of_eq hsz.symm), fun k hk2 hn => ?_, fun _ _ => rfl, fun _ h => .inl h⟩
          · exact HI.out.only.os.trans HX.out.2.2.1.os
          · exact HI.out.only.tape.trans HX.out.2.2.1.tape
          · exact HI.out.only.output.trans HX.out.2.2.1.output
          · exact (hfar k (fun e2 => by rw [e2, HX.out.2.1.ownC] at hn; cases hn) (fun e2 => by rw [e2, hs.ownP] at hn; cases hn) (fun e2 => by rw [e2, hs.ownU] at hn; cases hn) (by omega)).trans (HX.out.2.2.1.block k hk2)
      · have t1 : ((m : Int) == 0) = false := by rw [beq_eq_false_iff_ne]; omega
        have HM := Lib.hid hm0
        clear hm0
        have nC2 : wr.heap[c]? = some (.cells #[.pointer (some ⟨b, 0, none⟩), .int .i64 (C.size : Int), .int .i64 (C.order : Int), .int .i64 (C.keep : Int), .slice A R.length cap, .int .i64 (e : Int)] 78 (0, 0)) := HS.out.2.2.2.2.2.2.1
        have nU2 : wr.ownsRow 0 4 1 (.slice (some ⟨u, 0, none⟩) x.us.length ucap) x.us.length (bcells x.us) := HS.out.2.2.2.2.2.2.2.1
        have nP2 : wr.heap[p]? = _ := HS.out.2.2.2.2.2.1
        have nC4 : ((wr.setCell ⟨u, fi, none⟩ (.bool true)).setCell ⟨p, 2, none⟩ (.int .i64 ((m + 1 : Nat) : Int))).heap[c]? = _ := (setCell_far _ _ _ _ hpc.symm).trans ((setCell_far _ _ _ _ huc.symm).trans nC2)
        have nU4 := row_same (row_set nU2 (v := .bool true) hfi) (w' := ((wr.setCell ⟨u, fi, none⟩ (.bool true)).setCell ⟨p, 2, none⟩ (.int .i64 ((m + 1 : Nat) : Int)))) fun g hg => setCell_far _ _ _ _ (by injection hg with hg; show g ≠ p; rw [← hg]; exact hup)
        have nP4 := setCell_at (wr.setCell ⟨u, fi, none⟩ (.bool true)) p 2 _ _ (.int .i64 ((m + 1 : Nat) : Int)) ((setCell_far _ _ _ _ hup.symm).trans nP2)
        have hadr := address_ok ((wr.setCell ⟨u, fi, none⟩ (.bool true)).setCell ⟨p, 2, none⟩ (.int .i64 ((m + 1 : Nat) : Int))) c p C.size x.pg fi (six_cells nC4).2.1 (three_cells nP4).1 hsz hpg (by omega)
        have HAd := Lib.hid hadr
        have HT := Lib.hid (And.intro nU2 (And.intro nC4 (And.intro nU4 nP4)))
        clear nC2 nU2 nP2 nC4 nU4 nP4 hadr
        go_wp2_with (first
          | (go_at_call 42; refine (HId.out _ HT.out.1).mono ?_; rintro e w' ⟨rfl, rfl⟩)
          | (go_at_call 43; refine HAd.out.mono ?_; rintro e w' ⟨rfl, d, rfl⟩))
        go_ret2
        have hes := HS.out.2.2.2.2.2.2.2.2.2
        have hset := HS.out.2.2.2.2.1
        rw [if_neg (Nat.succ_ne_zero m), Nat.add_zero, ← hset] at hes
        have hem : emptyS (setS C.sl j fi true) = e := by rw [if_neg HM.out] at hes; omega
        have hfar : ∀ k, k ≠ c → k ≠ p → k ≠ u → k ≠ w.heap.size → (((wr.setCell ⟨u, fi, none⟩ (.bool true)).setCell ⟨p, 2, none⟩ (.int .i64 ((m + 1 : Nat) : Int))).drewN d).heap[k]? = W1.heap[k]? := fun k h1 h2 h3 h4 => (setCell_far _ _ _ _ h2).trans ((setCell_far _ _ _ _ h3).trans (HK.out k h4))
        have hown : ∀ k, own k ≠ none → k ≠ w.heap.size := fun k h e2 => h (by rw [e2]; exact HX.out.2.2.2.1)
        have hsz : (((wr.setCell ⟨u, fi, none⟩ (.bool true)).setCell ⟨p, 2, none⟩ (.int .i64 ((m + 1 : Nat) : Int))).drewN d).heap.size = W1.heap.size := by show ((wr.setCell ⟨u, fi, none⟩ (.bool true)).setCell ⟨p, 2, none⟩ (.int .i64 ((m + 1 : Nat) : Int))).heap.size = _; rw [setCell_size, setCell_size]; exact HI.out.only.size
        have hs := HS.out.1
        have hC2 := cache_set (w' := ((wr.setCell ⟨u, fi, none⟩ (.bool true)).setCell ⟨p, 2, none⟩ (.int .i64 ((m + 1 : Nat) : Int))).drewN d) (i := fi) (v := true) (m' := m + 1) (e' := e) HX.out.2.1 HS.out.2.1 HS.out.2.2.1 hs HT.out.2.1 HT.out.2.2.2 (by rw [show bcells (x.us.set fi true) = (bcells x.us).set fi (.bool true) from List.map_set]; exact row_same HT.out.2.2.1 fun _ _ => rfl) HS.out.2.2.2.1.symm (fun k h1 h2 h3 h4 _ => hfar k h2 h3 h4 (hown k h1))
        rw [← HFE.out]
        refine ⟨rfl, ⟨⟨A, cap, R, ?_⟩, ?_, ?_, ?_⟩, ?_⟩
        · show CacheAt _ own c b _ (emptyS (setS C.sl j fi true)) A cap R
          rw [hem]; exact hC2
        · have hob := HX.out.2.1.ownB
          refine HX.out.1.bu.keep (hfar b (fun e2 => ?_) (fun e2 => ?_) (fun e2 => ?_) (hown b (by rw [hob]; simp)))
          · rw [e2, HX.out.2.1.ownC] at hob; cases hob
          · rw [e2, hs.ownP] at hob; cases hob
          · rw [e2, hs.ownU] at hob; injection hob with hob; omega
        · exact ok_set HX.out.1.ok HS.out.2.2.1 (by rw [hem]; have := HX.out.1.ok.emp; have := HS.out.2.2.2.2.2.2.2.2.1; omega)
        · intro k hk2
          have := HX.out.1.fresh k hk2
          exact Nat.lt_of_lt_of_eq this hsz.symm
        · refine ⟨?_, ?_, ?_, Nat.le_trans (show w.heap.size ≤ W1.heap.size by omega) (Nat.le_of_eq hsz.symm), fun k hk2 hn => ?_, fun _ _ => rfl, fun _ h => .inl h⟩
          · exact HI.out.only.os.trans HX.out.2.2.1.os
          · exact HI.out.only.tape.trans HX.out.2.2.1.tape
          · exact HI.out.only.output.trans HX.out.2.2.1.output
          · exact (hfar k (fun e2 => by rw [e2, HX.out.2.1.ownC] at hn; cases hn) (fun e2 => by rw [e2, hs.ownP] at hn; cases hn) (fun e2 => by rw [e2, hs.ownU] at hn; cases hn) (by omega)).trans (HX.out.2.2.1.block k hk2)
end Sl
end Go.Proofs.Ytlknhbcambdccaa
namespace Go.Proofs.Ytlknhbcambdccaa
open Go.RowKit
namespace Sl
open Bu

set_option maxRecDepth 100000 in
set_option maxHeartbeats 8000000 in
theorem alloc_full (w : World) (own : Own?) (c b : Nat) (C : Ca) (N : Nat) (L : List Blk) (H : Held w own c b C N L) (hpick : pickS 0 none C.sl = none) (hfull : allocB N L C.order = none) :
    Calls Try.prog 12 #[.pointer (some ⟨c, 0, none⟩)] w fun e w' => e = .returned (.tuple #[.int .i64 0, .int .i64 5]) ∧ Held w' own c b C N L ∧ Keeps own own w w' := by
  obtain ⟨A, cap, R, hC⟩ := H.at_
  have hcl := lt_of_heap hC.cell
  obtain ⟨W1, hW1⟩ : ∃ W1, W1 = w.alloc (.cells #[.pointer none] 97) := ⟨_, rfl⟩
  have hb1 : Below w.heap.size w W1 := by rw [hW1]; exact below_box w _
  have hs1 : W1.heap.size = w.heap.size + 1 := by rw [hW1]; simp
  have hB1 : W1.heap[w.heap.size]? = some (.cells #[.pointer none] 97 (0, 0)) := by rw [hW1, heapAlloc, if_pos rfl]
  have H1 : Held W1 own c b C N L := H.below hb1
  have hC1 : CacheAt W1 own c b C (emptyS C.sl) A cap R := hC.same (fun k _ _ hl => hb1.block k hl) (fun _ _ _ => rfl) rfl
  obtain ⟨_, _, _, _, c4, _, _, _⟩ := six_cells hC.cell
  have hdead := dead_ok w c (some ⟨b, 0, none⟩) (six_cells hC.cell).1
  have HD := Lib.hid hdead
  obtain ⟨n, hn⟩ : ∃ n, n = R.length := ⟨_, rfl⟩
  have hnl : n = C.sl.length := hn.trans hC.len
  rw [← hn] at c4
  have hcap : n ≤ cap ∧ cap ≤ maxLen := by
    rcases hC.row.2 with ⟨hv, h0⟩ | ⟨g, cp, cur, hv, _, _, g1, g2, _⟩
    · injection hv with _ _ h3; unfold maxLen; omega
    · injection hv with _ _ h3; rw [hn, h3]; exact ⟨g1, g2⟩
  obtain ⟨hcap1, hcap2⟩ := hcap
  unfold maxLen at hcap2
  have hBn : own w.heap.size = none := by
    cases e : own w.heap.size with
    | none => rfl
    | some v => exact absurd (H.fresh _ (by rw [e]; simp)) (by omega)
  have HX := Lib.hid (And.intro H1 (And.intro hC1 (And.intro hb1 (And.intro hBn (And.intro hn hnl)))))
  have HL0 := Lib.hid (show LoopI W1 w.heap.size R C.sl 0 W1 from ⟨⟨rfl, rfl, rfl, rfl, fun _ _ => rfl⟩, hB1⟩)
  have HW := Lib.hid hW1
  have HH := Lib.hid H
  clear H hC H1 hC1 hb1 hB1 hW1 hdead hBn hn hnl
  have heq : ∀ (w : World) (p : Option Addr), (Op.equalIn 10000 97 (.pointer p) (.pointer none)).run Try.prog w = .ok p.isNone w := fun w p => run_equalIn_ptr_nil Try.prog w 9999 97 _ p Try.underlying97
  have heq2 := fun w p => run_eql_ptr_nil Try.prog w 97 _ p Try.underlying97
  go_enter Try.func12, Try.ntmps12
  go_wp2_with (go_at_call 34; refine HD.out.mono ?_; rintro e w' ⟨rfl, rfl⟩)
  rw [← HW.out]
  clear c4
  go_loopw [7, 19] (fun _ i wr => ∃ k : Nat, k ≤ n ∧ i = .int .i64 (k : Int) ∧ LoopI W1 w.heap.size R C.sl k wr) (fun _ i _ => n - (intOf i).toNat)
  case atStart => exact ⟨0, Nat.zero_le _, rfl, HL0.out⟩
  case round =>
    obtain ⟨k, hk, rfl, hI⟩ := hrel
    have HI := Lib.hid hI
    clear hI
    have e0 : (0 : Int) ≤ (k : Int) := by omega
    have hkeep : ∀ k', k' ≠ w.heap.size → wr.heap[k']? = W1.heap[k']? := fun k' hk' => HI.out.only.block k' (fun e => hk' (by injection e with e; exact e.symm))
    have HK := Lib.hid hkeep
    clear hkeep
    by_cases hlt : k < n
    · have e1 : (k : Int) < (n : Int) := by omega
      obtain ⟨p, hp⟩ : ∃ p, R[k]? = some p := ⟨_, List.getElem?_eq_getElem (by have := HX.out.2.2.2.2.1; omega)⟩
      obtain ⟨x, hx⟩ : ∃ x, C.sl[k]? = some x := ⟨_, List.getElem?_eq_getElem (by have := HX.out.2.2.2.2.2; omega)⟩
      obtain ⟨u, uc, hs⟩ := HX.out.2.1.slab k p x hp hx
      have hkk : IntKind.i64.wrap ((k : Int) + 1) = ((k + 1 : Nat) : Int) := by rw [IntWalk.i64_in _ (by omega)]; rfl
      have hslb : ∀ (j q : Nat) (y : Slb), R[j]? = some q → C.sl[j]? = some y → wr.cell? ⟨q, 2, none⟩ = some (.int .i64 (y.many : Int)) ∧ ∃ U uc, wr.cell? ⟨q, 1, none⟩ = some (.slice U y.us.length uc) := by
        intro j q y hq hy
        obtain ⟨u, uc, hs⟩ := HX.out.2.1.slab j q y hq hy
        have hqB : q ≠ w.heap.size := fun e => by have := hs.ownP; rw [e, HX.out.2.2.2.1] at this; cases this
        obtain ⟨_, g1, g2, _⟩ := three_cells ((HK.out q hqB).trans hs.cell)
        exact ⟨g2, _, _, g1⟩
      obtain ⟨m2, U, uc', m1⟩ := hslb k p x hp hx
      obtain ⟨bx, bf⟩ := Bu.one_cell HI.out.box
      have hcon := consider_ok wr p x.many x.us.length uc' w.heap.size U (selP R (pickS 0 none (C.sl.take k))) m1 m2 bx bf (fun q mq hq => by
        cases e2 : pickS 0 none (C.sl.take k) with
        | none => rw [e2] at hq; cases hq
        | some y =>
          obtain ⟨y1, y2⟩ := y
          rw [e2] at hq
          injection hq with hq
          injection hq with h1 h2
          obtain ⟨z, hz, hzm, _, hzk⟩ := pickS_some (by have := HX.out.2.2.2.2.2; omega) e2
          obtain ⟨q', hq'⟩ : ∃ q', R[y1]? = some q' := ⟨_, List.getElem?_eq_getElem (by have := HX.out.2.2.2.2.1; omega)⟩
          have h3 : q = q' := by rw [← h1, List.getD_eq_getElem?_getD, hq']; rfl
          rw [h3, ← h2, ← hzm]
          exact (hslb y1 q' z hq' hz).1)
      have HC := Lib.hid hcon
      obtain ⟨g, hA⟩ : ∃ g, A = some ⟨g, 0, none⟩ := by
        rcases HX.out.2.1.row.2 with ⟨_, h0⟩ | ⟨g, cp, cur, hv, _⟩
        · have := HX.out.2.2.2.2.1; omega
        · injection hv with hv; exact ⟨g, hv⟩
      have hrow := HX.out.2.1.row
      have hgo := HX.out.2.1.ownG
      subst hA
      have hgB : g ≠ w.heap.size := fun e => by have := hgo g rfl; rw [e, HX.out.2.2.2.1] at this; cases this
      have hgc := (World.cell?_of_block (a := ⟨g, k, none⟩) (HK.out g hgB)).trans (row_cell hrow (i := k) (v := .pointer (some ⟨p, 0, none⟩)) (by unfold ptrs; rw [List.getElem?_map, hp]; rfl))
      have HP := Lib.hid (And.intro hp hx)
      clear hcon hslb hs hp hx bx bf hrow hgo m1 m2
      go_wp2_with (go_at_call 38; refine HC.out.mono ?_; intro e w6 hr; obtain ⟨rfl, hI6⟩ := HI.out.next HP.out.1 HP.out.2 hr; have H6 := Lib.hid hI6; clear hI6 hr)
      go_roundw
      case rel => exact ⟨k + 1, by omega, by go_num, H6.out⟩
      case measure => simp [intOf]; omega
    · obtain rfl : k = n := by omega
      have e1 : ¬ ((k : Nat) : Int) < (k : Int) := by omega
      have htk : C.sl.take k = C.sl := List.take_of_length_le (by have := HX.out.2.2.2.2.2; omega)
      have hbox := HI.out.box
      rw [htk] at hbox
      clear htk
      rw [hpick] at hbox
      have hbox : wr.heap[w.heap.size]? = some (.cells #[.pointer none] 97 (0, 0)) := hbox
      obtain ⟨bx, bf⟩ := Bu.one_cell hbox
      have hcB : c ≠ w.heap.size := fun e => by have := HX.out.2.1.ownC; rw [e, HX.out.2.2.2.1] at this; cases this
      have hbB : b ≠ w.heap.size := fun e => by have := HX.out.2.1.ownB; rw [e, HX.out.2.2.2.1] at this; cases this
      have hcb : c ≠ b := fun e => by have := HX.out.2.1.ownC; rw [e, HX.out.2.1.ownB] at this; cases this
      have hmC := (HK.out c hcB).trans HX.out.2.1.cell
      have hbu : BuL wr b N L := HX.out.1.bu.keep (HK.out b hbB)
      obtain ⟨c0, c1, c2, c3, c4, c5, _, f5⟩ := six_cells hmC
      have hal := al_none (w := World.drew wr) (hbu.keep rfl) (by have := HX.out.1.ok.od; omega) hfull
      have HAl := Lib.hid hal
      have HS := Lib.hid (And.intro hmC hbox)
      clear hal hmC hbox hbu hpick
      go_wp2_with (fail)
      go_region_with (go_at_call 39; refine HAl.out.mono ?_; rintro e w5 ⟨rfl, hB5, hg5⟩; have H5 := Lib.hid (And.intro hB5 hg5); clear hB5 hg5)
      all_goals
        go_wp2_with (fail)
        go_ret2
        have hg5 : Grow1 b wr w5 := ⟨H5.out.2.os, H5.out.2.tape, H5.out.2.output, H5.out.2.size, H5.out.2.block⟩
        have hwl := HI.out.only.size
        have hfar : ∀ k, k < W1.heap.size → k ≠ b → k ≠ w.heap.size → w5.heap[k]? = W1.heap[k]? := fun k hk h1 h2 => (hg5.block k (by omega) h1).trans (HK.out k h2)
        have hown : ∀ k, own k ≠ none → k ≠ w.heap.size := fun k h e2 => h (by rw [e2]; exact HX.out.2.2.2.1)
        have h5s := hg5.size
        refine ⟨rfl, ⟨⟨A, cap, R, HX.out.2.1.same (fun k h1 h2 h3 => hfar k h3 h2 (hown k h1)) (fun _ _ _ => rfl) rfl⟩, H5.out.1, HX.out.1.ok, fun k hk2 => ?_⟩, ?_⟩
        · have := HX.out.1.fresh k hk2
          omega
        · exact ⟨hg5.os.trans (HI.out.only.os.trans HX.out.2.2.1.os), hg5.tape.trans (HI.out.only.tape.trans HX.out.2.2.1.tape), hg5.output.trans (HI.out.only.output.trans HX.out.2.2.1.output), by omega,
            fun k hk2 hn => (hfar k (by omega) (fun e2 => by rw [e2, HX.out.2.1.ownB] at hn; cases hn) (by omega)).trans (HX.out.2.2.1.block k hk2), fun _ _ => rfl, fun _ h => .inl h⟩
end Sl
end Go.Proofs.Ytlknhbcambdccaa
