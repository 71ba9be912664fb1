/- insert, walked. consider: the slab that Alloc selects. One object of a slab is allocated, or freed: the cache as it lies in memory. Slabs, plain: a slab is given back. -/
import Derived.Test.YtlknhbcambdccaaK16
namespace Go.Proofs.Ytlknhbcambdccaa
open Go.RowKit
namespace Sl
open Bu

/-- What insert leaves: the row has one more pointer; only the cache's block and its row are written. -/
def InsR (c : Nat) (x0 x1 x2 x3 x5 : Value) (A : Option Addr) (R : List Nat) (i px : Nat) (w : World) (e : Ending) (w' : World) : Prop :=
  e = .returned (.tuple #[]) ∧ ∃ g cap', w'.heap[c]? = some (.cells #[x0, x1, x2, x3, .slice (some ⟨g, 0, none⟩) (R.length + 1) cap', x5] 78 (0, 0)) ∧
    w'.ownsRow 0 97 1 (.slice (some ⟨g, 0, none⟩) (R.length + 1) cap') (R.length + 1) (ptrs (R.take i ++ px :: R.drop i)) ∧
    (A.map (·.block) = some g ∨ w.heap.size ≤ g) ∧ (∀ k, k < w.heap.size → k ≠ c → A.map (·.block) ≠ some k → w'.heap[k]? = w.heap[k]?) ∧
    w'.os = w.os ∧ w'.tape = w.tape ∧ w'.output = w.output ∧ w.heap.size ≤ w'.heap.size

theorem own_blk {A : Option Addr} {n cap : Nat} : (Value.slice A n cap).ownBlock = A.map (·.block) := by cases A <;> rfl

attribute [local irreducible] wpStill
set_option maxRecDepth 100000 in
set_option maxHeartbeats 4000000 in
theorem insert_ok (w : World) (c px pg : Nat) (x0 x1 x2 x3 x5 : Value) (A : Option Addr) (cap : Nat) (R : List Nat) (l : List Slb)
    (hc : w.heap[c]? = some (.cells #[x0, x1, x2, x3, .slice A R.length cap, x5] 78 (0, 0))) (hrow : w.ownsRow 0 97 1 (.slice A R.length cap) R.length (ptrs R)) (hlen : R.length = l.length) (hl : l.length ≤ 1023)
    (hasc : l.Pairwise fun a b => a.pg < b.pg) (hpg : PgAt w R l) (hp : pg ≤ 1024) (hx : w.cell? ⟨px, 0, none⟩ = some (.int .i64 (pg : Int))) (hA : A.map (·.block) ≠ some c) :
    Calls Try.prog 41 #[.pointer (some ⟨c, 0, none⟩), .pointer (some ⟨px, 0, none⟩)] w fun e w' => InsR c x0 x1 x2 x3 x5 A R (posS l pg) px w e w' := by
  have hcl := lt_of_heap hc
  obtain ⟨c0, c1, c2, c3, c4, c5, f4, f5⟩ := six_cells hc
  have haf := after_ok w c A cap pg R l c4 hrow hlen (by omega) hasc hpg hp
  have hil := posS_le l pg
  obtain ⟨i, hi⟩ : ∃ i, i = posS l pg := ⟨_, rfl⟩
  rw [← hi] at haf hil ⊢
  have HAf := Lib.hid haf
  obtain ⟨i0, z0, hi0, hz0, hz1, hz2, hz3⟩ := info_open ptr_info
  obtain ⟨n, hn⟩ : ∃ n, n = R.length := ⟨_, rfl⟩
  have hin : i ≤ n := by omega
  have hn1 : n ≤ 1023 := by omega
  have HR := Lib.hid (And.intro hrow (And.intro hc (And.intro hA hn)))
  have HX := Lib.hid hx
  rw [← hn] at c4
  clear haf hi hrow hpg hasc hlen hl hil hA hc c0 c1 c2 c3 c5 f5 hp hn
  have hnr := HR.out.2.2.2
  go_enter Try.func41, Try.ntmps41
  go_wp2_with (go_at_call 75; fail)
  refine HAf.out.mono ?_
  rintro e w' ⟨⟨f, rfl⟩, rfl⟩
  have e0 : (0 : Int) ≤ (i : Int) := by omega
  have HN := Lib.hid hnr
  clear hnr
  have c4a : (w.alloc (.cells #[.pointer none] 97)).cell? ⟨c, 4, none⟩ = some (.slice A n cap) := (World.cell?_alloc_lt _ _ _ hcl).trans c4
  go_wp2_with (at_builtin; refine wpList_append_lies _ rfl (.tmp 19) (.tmp 20) _ rfl 0 97 i0 z0 1 8 Try.underlying76 hi0 hz0 hz1 hz2 hz3 (by omega) (.slice A n cap) n (ptrs R) rfl (by have := HR.out.1; rw [← HN.out] at this; exact this.alloc _) ⟨w.heap.size, 0, none⟩ 1 1 [.pointer none] rfl rfl (World.news_of_block (heap_alloc_new _ _)) (by simp [Value.oneCell']) (by omega) (by unfold maxLen; omega) (by omega) (by simp) (w.heap.size + 1) (by simp) ?_
               intro g1 cap1 w1 hown1 hgrow1 hat1 hlt1
               have hcn : some c ≠ (Value.slice A n cap).ownBlock := fun e => HR.out.2.2.1 (by rw [e, own_blk])
               have m0 : w1.heap[c]? = some (.cells #[x0, x1, x2, x3, .slice A n cap, x5] 78 (0, 0)) := by rw [hgrow1.block c (by simp; omega) hcn, alloc_old _ _ _ hcl, HN.out]; exact HR.out.2.1
               have hgc : g1 ≠ c := fun e => by
                 rcases hat1 with h | h
                 · exact hcn (by rw [← e]; exact h.symm)
                 · omega
               obtain ⟨_, _, _, _, d4, _, f4', _⟩ := six_cells m0
               have H1 := Lib.hid (And.intro hown1 (And.intro hgrow1 (And.intro hat1 m0)))
               clear hown1 hgrow1 hat1 m0 hcn)
  have m2 := setCell_at w1 c 4 _ _ (.slice (some ⟨g1, 0, none⟩) (n + 1) cap1) H1.out.2.2.2
  obtain ⟨cur, hcur, hcs, hct, hcn1, hcm⟩ := row_form H1.out.1
  have hcur2 : (w1.setCell ⟨c, 4, none⟩ (.slice (some ⟨g1, 0, none⟩) (n + 1) cap1)).heap[g1]? = some (.cells cur 97 (0, 0)) := (setCell_far _ _ _ _ hgc).trans hcur
  have hfar : ∀ k, k ≠ c → (w1.setCell ⟨c, 4, none⟩ (.slice (some ⟨g1, 0, none⟩) (n + 1) cap1)).heap[k]? = w1.heap[k]? := fun k hk => setCell_far _ _ _ _ hk
  have hsz2 : (w1.setCell ⟨c, 4, none⟩ (.slice (some ⟨g1, 0, none⟩) (n + 1) cap1)).heap.size = w1.heap.size := setCell_size _ _ _
  have hmeta : (w1.setCell ⟨c, 4, none⟩ (.slice (some ⟨g1, 0, none⟩) (n + 1) cap1)).os = w1.os ∧ (w1.setCell ⟨c, 4, none⟩ (.slice (some ⟨g1, 0, none⟩) (n + 1) cap1)).tape = w1.tape ∧ (w1.setCell ⟨c, 4, none⟩ (.slice (some ⟨g1, 0, none⟩) (n + 1) cap1)).output = w1.output := ⟨rfl, rfl, rfl⟩
  generalize w1.setCell ⟨c, 4, none⟩ (.slice (some ⟨g1, 0, none⟩) (n + 1) cap1) = W2 at *
  obtain ⟨_, _, _, _, k4, _, _, _⟩ := six_cells m2
  obtain ⟨n1, hn1e⟩ : ∃ n1, n1 = n + 1 := ⟨_, rfl⟩
  obtain ⟨i1, hi1e⟩ : ∃ i1, i1 = i + 1 := ⟨_, rfl⟩
  rw [← hn1e] at k4 hcn1 hct m2 ⊢
  unfold maxLen at hcm
  have hi1 : IntKind.i64.wrap ((i : Int) + 1) = (i1 : Int) := by rw [IntWalk.i64_in _ (by omega)]; omega
  have u1 : (0 : Int) ≤ (i1 : Int) := by omega
  have u2 : (i1 : Int) ≤ (n1 : Int) := by omega
  have u3 : (n1 : Int) ≤ (cap1 : Int) := by omega
  have u4 : (i : Int) ≤ (n1 : Int) := by omega
  have u5 : ¬ cap1 = i := by omega
  have HM := Lib.hid (And.intro m2 (And.intro hcur2 (And.intro hcs (And.intro hct (And.intro hfar (And.intro hsz2 hmeta))))))
  have HE := Lib.hid (And.intro hn1e hi1e)
  have hcl2 : n + 1 ≤ cur.size := by omega
  clear m2 hcur hcur2 hcs hct hfar hsz2 hn1e hi1e d4 c4a c4 hmeta
  refine wp_region_still_tail 13 (by kernel_rfl) (by kernel_rfl) ?_
  simp only [List.take_succ_cons, List.take_zero, List.drop_succ_cons, List.drop_zero]
  change wpStill _ _ (World.drew _) (fun a' => wpList _ _ _ _ a' (World.drew _)) _ _
  iterate 13 still_step
  refine wpStill_nil ?_
  have hcsE : (cur.toList.drop i).take (n - i) = (ptrs R).drop i := by
    have h1 : cur.toList.take n = ptrs R := by
      have h2 : cur.toList.take n = (cur.toList.take n1).take n := by rw [List.take_take]; congr 1; have := HE.out.1; omega
      rw [h2, HM.out.2.2.2.1, List.take_append_of_le_length (by rw [ptrs_len]; have := HN.out; omega), List.take_of_length_le (by rw [ptrs_len]; have := HN.out; omega)]
    rw [← h1, List.drop_take]
  have hdl : ((ptrs R).drop i).length = n - i := by rw [List.length_drop, ptrs_len, HN.out]
  refine wpList_copy_ptr rfl (.tmp 30) (.tmp 36) rfl g1 i n cap1 (if cap1 = i1 then some ⟨g1, 0, none⟩ else some ⟨g1, i1, none⟩) (cap1 - i1) (cap1 - i) (by rw [show n - i = n1 - i1 by have := HE.out; omega]; rfl) (by rw [← HE.out.1]; rfl) (fun h => by rw [if_neg (by have := HE.out; omega), HE.out.2]) hin cur HM.out.2.1 ((ptrs R).drop i) hcsE.symm hcl2 (fun v hv => by have := List.mem_of_mem_drop hv; unfold ptrs at this; obtain ⟨p, _, rfl⟩ := List.mem_map.1 this; rfl) ?_
  intro w3 hob hg3
  have H3 := Lib.hid (And.intro hob hg3)
  have k4 : w3.cell? ⟨c, 4, none⟩ = some (.slice (some ⟨g1, 0, none⟩) n1 cap1) := (World.cell?_of_block (a := ⟨c, 4, none⟩) (hob.block c (fun e => hgc (by injection e)))).trans k4
  have hLl : i < (cur.toList.take (i + 1) ++ ((ptrs R).drop i ++ cur.toList.drop (i + 1 + ((ptrs R).drop i).length))).length := by simp; omega
  obtain ⟨v0, hv0⟩ : ∃ v0, (cur.toList.take (i + 1) ++ ((ptrs R).drop i ++ cur.toList.drop (i + 1 + ((ptrs R).drop i).length)))[i]? = some v0 := ⟨_, List.getElem?_eq_getElem hLl⟩
  have hc3 : w3.cell? ⟨g1, i, none⟩ = some v0 := by rw [cell_of_row _ _ _ _ _ _ hg3]; simpa using hv0
  have hf3 : w3.frozen? ⟨g1, i, none⟩ = false := by simp [World.frozen?, hg3]
  clear hob hg3 hLl hv0
  have hlt3 : (i : Int) < (n1 : Int) := by have := HE.out; omega
  go_wp2_with (fail)
  all_goals
    go_end0
    refine ⟨rfl, g1, cap1, ?_, ?_, ?_, fun k hk hkc hkA => ?_, ?_, ?_, ?_, ?_⟩
    · rw [setCell_far _ _ _ _ (show c ≠ g1 from fun e => hgc e.symm), H3.out.1.block c (fun e => hgc (by injection e)), ← HN.out]
      have := HM.out.1
      rw [HE.out.1] at this
      exact this
    · refine row_make (cur := (cur.toList.take (i + 1) ++ ((ptrs R).drop i ++ cur.toList.drop (i + 1 + ((ptrs R).drop i).length))).toArray.setIfInBounds i (.pointer (some ⟨px, 0, none⟩))) (setCell_at _ _ _ _ _ _ H3.out.2) ?_ ?_ (by have := HE.out.1; have := HN.out; omega) (by unfold maxLen; omega) (Nat.zero_le _)
      · have := HM.out.2.2.1
        simp [hdl]
        have := HE.out.1
        omega
      · rw [Array.toList_setIfInBounds]
        have h1 := HM.out.2.2.2.1
        rw [HE.out.1, HN.out] at h1
        exact row_insert h1 (by have := HN.out; omega) (by have := HN.out; simp; omega)
    · rcases H1.out.2.2.1 with h | h
      · exact .inl (by rw [← own_blk (n := n) (cap := cap)]; exact h)
      · exact .inr (by omega)
    · have hkg : k ≠ g1 := fun e => by
        rcases H1.out.2.2.1 with h | h
        · exact hkA (by rw [← own_blk (n := n) (cap := cap), h, e])
        · omega
      rw [setCell_far _ _ _ _ hkg, H3.out.1.block k (fun e => hkg (by injection e with e; exact e.symm)), show (World.drew W2).heap[k]? = W2.heap[k]? from rfl, HM.out.2.2.2.2.1 k hkc, H1.out.2.1.block k (by simp; omega) (fun e => hkA (by rw [← own_blk (n := n) (cap := cap), ← e])), alloc_old _ _ _ hk]
    · exact (H3.out.1.os.trans HM.out.2.2.2.2.2.2.1).trans H1.out.2.1.os
    · exact (H3.out.1.tape.trans HM.out.2.2.2.2.2.2.2.1).trans H1.out.2.1.tape
    · exact (H3.out.1.output.trans HM.out.2.2.2.2.2.2.2.2).trans H1.out.2.1.output
    · rw [setCell_size, H3.out.1.size]
      have h1 := H1.out.2.1.size
      rw [World.size_alloc] at h1
      have h2 := HM.out.2.2.2.2.2.1
      show w.heap.size ≤ W2.heap.size
      omega
end Sl
end Go.Proofs.Ytlknhbcambdccaa
namespace Go.Proofs.Ytlknhbcambdccaa
open Go.RowKit
namespace Sl
open Bu

def bestP : Option (Nat × Nat) → Option Addr
  | some (q, _) => some ⟨q, 0, none⟩
  | none => none

/-- What consider leaves in the box. -/
def ConsR (p m n B : Nat) (o : Option (Nat × Nat)) (w : World) (e : Ending) (w' : World) : Prop :=
  e = .returned (.tuple #[]) ∧ ∃ d, w' = if m < n ∧ (∀ x, o = some x → x.2 < m) then (w.drewN d).setCell ⟨B, 0, none⟩ (.pointer (some ⟨p, 0, none⟩)) else w.drewN d

set_option maxRecDepth 100000 in
set_option maxHeartbeats 4000000 in
theorem consider_ok (w : World) (p m n ucap B : Nat) (U : Option Addr) (o : Option (Nat × Nat)) (h1 : w.cell? ⟨p, 1, none⟩ = some (.slice U n ucap)) (h2 : w.cell? ⟨p, 2, none⟩ = some (.int .i64 (m : Int)))
    (h3 : w.cell? ⟨B, 0, none⟩ = some (.pointer (bestP o))) (h4 : w.frozen? ⟨B, 0, none⟩ = false) (h5 : ∀ q mq, o = some (q, mq) → w.cell? ⟨q, 2, none⟩ = some (.int .i64 (mq : Int))) :
    Calls Try.prog 38 #[.pointer (some ⟨p, 0, none⟩), .pointer (some ⟨B, 0, none⟩)] w fun e w' => ConsR p m n B o w e w' := by
  have hn2 : ∀ (w : World) (p : Option Addr), (Op.equalIn 10000 97 (.pointer p) (.pointer none)).run Try.prog w = .ok p.isNone w := fun w p => run_equalIn_ptr_nil Try.prog w 9999 97 _ p Try.underlying97
  by_cases hmn : m < n
  · have t1 : (m : Int) < (n : Int) := by omega
    cases o with
    | none =>
      replace h3 : w.cell? ⟨B, 0, none⟩ = some (.pointer none) := h3
      have HC := Lib.hid hmn
      clear hmn h5
      go_enter Try.func38, Try.ntmps38
      go_wp2_with (fail)
      go_quiet (fail)
      go_wp2
      go_end0
      exact ⟨rfl, _, by rw [if_pos ⟨HC.out, fun x hx => by cases hx⟩]⟩
    | some x =>
      obtain ⟨q, mq⟩ := x
      replace h3 : w.cell? ⟨B, 0, none⟩ = some (.pointer (some ⟨q, 0, none⟩)) := h3
      replace h5 := h5 q mq rfl
      by_cases hgt : mq < m
      · have t2 : decide (mq < m) = true := by simp; omega
        have t3 : (mq : Int) < (m : Int) := by omega
        have HC := Lib.hid (And.intro hmn hgt)
        clear hmn hgt
        go_enter Try.func38, Try.ntmps38
        go_wp2_with (fail)
        go_quiet (fail)
        go_wp2
        go_end0
        exact ⟨rfl, _, by rw [if_pos ⟨HC.out.1, fun x hx => by injection hx with hx; rw [← hx]; exact HC.out.2⟩]⟩
      · have t2 : decide (mq < m) = false := by simp; omega
        have HC := Lib.hid hgt
        clear hgt
        go_enter Try.func38, Try.ntmps38
        go_wp2_with (fail)
        go_quiet (fail)
        go_wp2
        go_end0
        exact ⟨rfl, _, by rw [if_neg (fun h => HC.out (h.2 _ rfl))]⟩
  · have t1 : decide (m < n) = false := by simp; omega
    have HC := Lib.hid hmn
    clear hmn
    go_enter Try.func38, Try.ntmps38
    go_wp2_with (fail)
    go_quiet (fail)
    go_wp2
    go_end0
    exact ⟨rfl, _, by rw [if_neg (fun h => HC.out h.1)]⟩
end Sl
end Go.Proofs.Ytlknhbcambdccaa
namespace Go.Proofs.Ytlknhbcambdccaa
open Go.RowKit
namespace Sl
open Bu

theorem empty_set {x y : Slb} : ∀ {l : List Slb} {j : Nat}, l[j]? = some x → emptyS (l.set j y) + (if x.many = 0 then 1 else 0) = emptyS l + (if y.many = 0 then 1 else 0) := by
  intro l
  induction l with
  | nil => intro j h; simp at h
  | cons z l ih =>
    intro j h
    cases j with
    | zero =>
      simp at h
      subst h
      unfold emptyS
      rw [List.set_cons_zero, List.filter_cons, List.filter_cons]
      by_cases h1 : z.many = 0 <;> by_cases h2 : y.many = 0 <;> simp [h1, h2]
    | succ j =>
      have := ih (j := j) (by simpa using h)
      unfold emptyS at this ⊢
      rw [List.set_cons_succ, List.filter_cons, List.filter_cons]
      by_cases h1 : z.many = 0
      · simp only [h1, beq_self_eq_true, if_true, List.length_cons]; omega
      · have : ¬ ((z.many == 0) = true) := by simp [h1]
        rw [if_neg this, if_neg this]; omega
theorem setS_eq {l : List Slb} {j i : Nat} {x : Slb} {v : Bool} (h : l[j]? = some x) : setS l j i v = l.set j ⟨x.pg, x.us.set i v⟩ := by unfold setS; rw [h]
theorem setS_len (l : List Slb) (j i : Nat) (v : Bool) : (setS l j i v).length = l.length := by
  unfold setS; split
  · exact List.length_set
  · rfl

/-- What stays of what holds of a cache where an object is turned. -/
theorem ok_set {C : Ca} {N : Nat} {L : List Blk} {j i : Nat} {x : Slb} {v : Bool} (h : CaOk C N L) (hx : C.sl[j]? = some x) (he : emptyS (setS C.sl j i v) ≤ C.keep) : CaOk { C with sl := setS C.sl j i v } N L := by
  have hset := setS_eq (i := i) (v := v) hx
  have hmem : ∀ y ∈ setS C.sl j i v, ∃ z ∈ C.sl, z.pg = y.pg ∧ z.us.length = y.us.length := by
    intro y hy
    rw [hset] at hy
    obtain ⟨k, hk, hke⟩ := List.mem_iff_getElem.1 hy
    rw [List.getElem_set] at hke
    split at hke
    · rw [← hke]; exact ⟨x, List.mem_of_getElem? hx, rfl, by simp⟩
    · rw [← hke]; exact ⟨_, List.getElem_mem _, rfl, rfl⟩
  refine ⟨h.sz, h.od, h.kp, h.fit, h.st, ?_, fun y hy => ?_, fun y hy => ?_, he⟩
  · show (setS C.sl j i v).Pairwise _
    rw [hset, List.pairwise_iff_getElem]
    intro a b ha hb hab
    have ha' : a < C.sl.length := by simpa using ha
    have hb' : b < C.sl.length := by simpa using hb
    have key := List.pairwise_iff_getElem.1 h.asc a b ha' hb' hab
    have hjx := (List.getElem?_eq_some_iff.1 hx).2
    have hpg : ∀ k (hk : k < C.sl.length), ((C.sl.set j ⟨x.pg, x.us.set i v⟩)[k]'(by simpa using hk)).pg = (C.sl[k]).pg := by
      intro k hk
      rw [List.getElem_set]
      split
      · next e => subst e; rw [hjx]
      · rfl
    rw [hpg a ha', hpg b hb']
    exact key
  · obtain ⟨z, hz, h1, _⟩ := hmem y hy
    show (y.pg, C.order) ∈ L
    rw [← h1]; exact h.giv z hz
  · obtain ⟨z, hz, _, h2⟩ := hmem y hy
    show y.us.length = capa C.size C.order
    rw [← h2]; exact h.len z hz

theorem cache_set {w w' : World} {own : Own?} {c b : Nat} {C : Ca} {e : Nat} {A : Option Addr} {cap : Nat} {R : List Nat} {j i p u m ucap : Nat} {x : Slb} {v : Bool} {m' e' : Nat} (h : CacheAt w own c b C e A cap R) (hj : R[j]? = some p) (hx : C.sl[j]? = some x) (hs : SlabAt w own p u m ucap x)
    (hc' : w'.heap[c]? = some (.cells #[.pointer (some ⟨b, 0, none⟩), .int .i64 (C.size : Int), .int .i64 (C.order : Int), .int .i64 (C.keep : Int), .slice A R.length cap, .int .i64 (e' : Int)] 78 (0, 0)))
    (hp' : w'.heap[p]? = some (.cells #[.int .i64 (x.pg : Int), .slice (some ⟨u, 0, none⟩) x.us.length ucap, .int .i64 (m' : Int)] 101 (0, 0)))
    (hu' : w'.ownsRow 0 4 1 (.slice (some ⟨u, 0, none⟩) x.us.length ucap) x.us.length (bcells (x.us.set i v))) (hm' : m' = (x.us.set i v).count true)
    (hk : ∀ k, own k ≠ none → k ≠ c → k ≠ p → k ≠ u → k < w.heap.size → w'.heap[k]? = w.heap[k]?) : CacheAt w' own c b { C with sl := setS C.sl j i v } e' A cap R := by
  have hset := setS_eq (i := i) (v := v) hx
  have hg : ∀ g, A.map (·.block) = some g → g ≠ c ∧ g ≠ p ∧ g ≠ u ∧ own g ≠ none ∧ g < w.heap.size := by
    intro g hg
    have ho := h.ownG g hg
    refine ⟨fun e => ?_, fun e => ?_, fun e => ?_, by rw [ho]; simp, (h.row.lt g (by cases A with | none => cases hg | some a => injection hg with hg; rw [← hg]; rfl)).2⟩
    · rw [e, h.ownC] at ho; cases ho
    · rw [e, hs.ownP] at ho; cases ho
    · rw [e, hs.ownU] at ho; injection ho with ho; omega
  refine ⟨h.ownC, h.ownB, hc', row_same h.row fun g hgv => ?_, h.ownG, by show R.length = (setS C.sl j i v).length; rw [setS_len]; exact h.len, h.nd, fun k q y hq hy => ?_⟩
  · obtain ⟨h1, h2, h3, h4, h5⟩ := hg g (by cases A with | none => cases hgv | some a => injection hgv with hgv; rw [← hgv]; rfl)
    exact hk g h4 h1 h2 h3 h5
  · have hy : (setS C.sl j i v)[k]? = some y := hy
    rw [hset, List.getElem?_set] at hy
    by_cases e : j = k
    · subst e
      rw [if_pos rfl] at hy
      rw [hj] at hq
      injection hq with hq
      subst hq
      split at hy
      · injection hy with hy
        subst hy
        refine ⟨u, ucap, hs.ownP, hs.ownU, ?_, ?_⟩
        · show w'.heap[p]? = some (.cells #[.int .i64 (x.pg : Int), .slice (some ⟨u, 0, none⟩) (x.us.set i v).length ucap, .int .i64 (((x.us.set i v).count true : Nat) : Int)] 101 (0, 0))
          rw [List.length_set, ← hm']; exact hp'
        · show w'.ownsRow 0 4 1 (.slice (some ⟨u, 0, none⟩) (x.us.set i v).length ucap) (x.us.set i v).length (bcells (x.us.set i v))
          rw [List.length_set]; exact hu'
      · cases hy
    · rw [if_neg e] at hy
      obtain ⟨u2, uc2, hs2⟩ := h.slab k q y hq hy
      refine ⟨u2, uc2, hs2.same fun z hz hl => ⟨?_, rfl⟩⟩
      have hqp : q ≠ p := fun e2 => by
        subst e2
        have h1 := (List.getElem?_eq_some_iff.1 hj)
        have h2 := (List.getElem?_eq_some_iff.1 hq)
        exact e ((List.getElem_inj h.nd).1 (h1.2.trans h2.2.symm))
      rcases hz with rfl | rfl
      · refine hk _ (by rw [hs2.ownP]; simp) (fun e2 => ?_) hqp (fun e2 => ?_) hl
        · have := hs2.ownP; rw [e2, h.ownC] at this; cases this
        · have := hs2.ownP; rw [e2, hs.ownU] at this; injection this with this; omega
      · refine hk _ (by rw [hs2.ownU]; simp) (fun e2 => ?_) (fun e2 => ?_) (fun e2 => ?_) hl
        · have := hs2.ownU; rw [e2, h.ownC] at this; injection this with this; omega
        · have := hs2.ownU; rw [e2, hs.ownP] at this; injection this with this; omega
        · have := hs2.ownU; rw [e2, hs.ownU] at this; injection this with this; omega
end Sl
end Go.Proofs.Ytlknhbcambdccaa
namespace Go.Proofs.Ytlknhbcambdccaa
namespace Sl
open Bu

theorem empty_erase {x : Slb} : ∀ {l : List Slb} {j : Nat}, l[j]? = some x → emptyS (l.eraseIdx j) + (if x.many = 0 then 1 else 0) = emptyS l := by
  intro l
  induction l with
  | nil => intro j h; simp at h
  | cons z l ih =>
    intro j h
    cases j with
    | zero =>
      simp at h
      subst h
      unfold emptyS
      rw [List.eraseIdx_cons_zero, List.filter_cons]
      by_cases h1 : z.many = 0 <;> simp [h1]
    | succ j =>
      have := ih (j := j) (by simpa using h)
      unfold emptyS at this ⊢
      rw [List.eraseIdx_cons_succ, List.filter_cons, List.filter_cons]
      by_cases h1 : z.many = 0
      · simp only [h1, beq_self_eq_true, if_true, List.length_cons]; omega
      · have : ¬ ((z.many == 0) = true) := by simp [h1]
        rw [if_neg this, if_neg this]; omega

theorem asc_erase {l : List Slb} {j : Nat} {x y : Slb} (h : l.Pairwise fun a b => a.pg < b.pg) (hx : l[j]? = some x) (hy : y ∈ l.eraseIdx j) : y ∈ l ∧ y.pg ≠ x.pg := by
  refine ⟨List.mem_of_mem_eraseIdx hy, fun he => ?_⟩
  obtain ⟨k, hke⟩ := List.mem_iff_getElem?.1 hy
  rw [List.getElem?_eraseIdx] at hke
  obtain ⟨hj, hje⟩ := List.getElem?_eq_some_iff.1 hx
  have key : ∀ m (hm : m < l.length), m ≠ j → (l[m]).pg ≠ x.pg := by
    intro m hm hne
    rw [← hje]
    rcases Nat.lt_or_gt_of_ne hne with h1 | h1
    · have := List.pairwise_iff_getElem.1 h m j hm hj h1; omega
    · have := List.pairwise_iff_getElem.1 h j m hj hm h1; omega
  split at hke
  · next hlt =>
    obtain ⟨hm, hme⟩ := List.getElem?_eq_some_iff.1 hke
    exact key k hm (by omega) (by rw [hme]; exact he)
  · next hlt =>
    obtain ⟨hm, hme⟩ := List.getElem?_eq_some_iff.1 hke
    exact key (k + 1) hm (by omega) (by rw [hme]; exact he)

/-- What holds of a cache of which a slab is given back. -/
theorem ok_del {C : Ca} {N : Nat} {L : List Blk} {k : Nat} {x : Slb} {l : List Slb} (sz : 8 ≤ C.size ∧ C.size ≤ 1024 ∧ C.size % 8 = 0) (od : C.order ≤ 4) (kp : C.keep ≤ 64) (fit : C.size ≤ 64 * 2 ^ C.order) (st : St N L)
    (asc : l.Pairwise fun a b => a.pg < b.pg) (giv : ∀ y ∈ l, (y.pg, C.order) ∈ L) (len : ∀ y ∈ l, y.us.length = capa C.size C.order) (hx : l[k]? = some x) (hz : x.many = 0) (he : emptyS l ≤ C.keep + 1) :
    CaOk { C with sl := l.eraseIdx k } N (delB L (x.pg, C.order)) := by
  refine ⟨sz, od, kp, fit, st.del, asc.sublist (List.eraseIdx_sublist l k), fun y hy => ?_, fun y hy => ?_, ?_⟩
  · obtain ⟨h1, h2⟩ := asc_erase asc hx hy
    exact mem_delB.2 ⟨giv y h1, fun e => h2 (by injection e)⟩
  · exact len y (asc_erase asc hx hy).1
  · have := empty_erase hx
    rw [if_pos hz] at this
    show emptyS (l.eraseIdx k) ≤ C.keep
    omega
end Sl
end Go.Proofs.Ytlknhbcambdccaa
