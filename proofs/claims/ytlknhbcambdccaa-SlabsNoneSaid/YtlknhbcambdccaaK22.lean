/- Caches: where a slab is put; what is considered. insert: a slab is put in its place. insert, walked. -/
import Derived.Test.YtlknhbcambdccaaK20
import Derived.Test.YtlknhbcambdccaaK21
import Derived.Deep.AppendLies
import Derived.Laws.CopyOwn
import Derived.Deep.RegionWith
import Derived.StillTailTactics
namespace Go.Proofs.Ytlknhbcambdccaa
open Go.RowKit
namespace Sl
open Bu

set_option maxRecDepth 100000 in
theorem afterC_ok (w : World) (p pg page : Nat) (h : w.cell? ⟨p, 0, none⟩ = some (.int .i64 (pg : Int))) (h1 : pg ≤ 1024) (h2 : page ≤ 1024) :
    Calls Try.prog 95 #[.pointer (some ⟨p, 0, none⟩), .int .i64 (page : Int)] w fun e w' => e = .returned (.int .i64 ((pg : Int) - (page : Int))) ∧ w = w' := by
  have hw : IntKind.i64.wrap ((pg : Int) - (page : Int)) = (pg : Int) - (page : Int) := IntWalk.i64_in _ (by omega)
  go_enter Try.func95, Try.ntmps95
  go_wp2
  go_ret
  exact ⟨rfl, rfl⟩

/-- What the search returns. -/
def SearchR (q : Nat) (e : Ending) : Prop := ∃ f, e = .returned (.tuple #[.int .i64 (q : Int), .bool f])

/-- The slabs' pages, as the row of pointers leads to them. -/
def PgAt (w : World) (R : List Nat) (l : List Slb) : Prop := ∀ (i p : Nat) (x : Slb), R[i]? = some p → l[i]? = some x → w.cell? ⟨p, 0, none⟩ = some (.int .i64 (x.pg : Int)) ∧ x.pg ≤ 1024

set_option maxRecDepth 100000 in
set_option maxHeartbeats 2000000 in
theorem search_ok (w : World) (A : Option Addr) (cap page : Nat) (R : List Nat) (l : List Slb) (hrow : w.ownsRow 0 97 1 (.slice A R.length cap) R.length (ptrs R)) (hlen : R.length = l.length) (hl : l.length ≤ 1024) (hasc : l.Pairwise fun a b => a.pg < b.pg) (hpg : PgAt w R l) (hp : page ≤ 1024) :
    Calls Try.prog 94 #[.slice A R.length cap, .int .i64 (page : Int), .func (.func 95) #[] #[]] w fun e w' => SearchR (posS l page) e ∧ w = w' := by
  obtain ⟨n, hn⟩ : ∃ n, n = R.length := ⟨_, rfl⟩
  have hpl := posS_le l page
  obtain ⟨q, hq⟩ : ∃ q, q = posS l page := ⟨_, rfl⟩
  have hiff := fun i x hx => posS_iff (p := page) hasc i x hx
  rw [← hq] at hiff hpl ⊢
  have hat : ∀ i, i < n → ∃ (g p : Nat) (x : Slb), A = some ⟨g, 0, none⟩ ∧ w.cell? ⟨g, i, none⟩ = some (.pointer (some ⟨p, 0, none⟩)) ∧ w.cell? ⟨p, 0, none⟩ = some (.int .i64 (x.pg : Int)) ∧ x.pg ≤ 1024 ∧ (x.pg < page ↔ i < q) := by
    intro i hi
    obtain ⟨p, hpp⟩ : ∃ p, R[i]? = some p := ⟨_, List.getElem?_eq_getElem (by omega)⟩
    obtain ⟨x, hx⟩ : ∃ x, l[i]? = some x := ⟨_, List.getElem?_eq_getElem (by omega)⟩
    obtain ⟨h1, h2⟩ := hpg i p x hpp hx
    obtain ⟨g, hA⟩ : ∃ g, A = some ⟨g, 0, none⟩ := by
      rcases hrow.2 with ⟨_, h0⟩ | ⟨g, c, cur, hv, _⟩
      · omega
      · injection hv with hv; exact ⟨g, hv⟩
    subst hA
    exact ⟨g, p, x, rfl, row_cell hrow (by unfold ptrs; rw [List.getElem?_map, hpp]; rfl), h1, h2, hiff i x hx⟩
  rw [← hn]
  have HA := Lib.hid hat
  have hq1 : q ≤ n := by omega
  have hn1 : n ≤ 1024 := by omega
  clear hat hiff hpg hrow hasc hn hq hpl
  go_enter Try.func94, Try.ntmps94
  go_wp2_with (fail)
  go_loop [9, 10, 11] (fun i j _ => ∃ a b : Nat, a ≤ q ∧ q ≤ b ∧ b ≤ n ∧ i = .int .i64 (a : Int) ∧ j = .int .i64 (b : Int)) (fun i j _ => (intOf j).toNat - (intOf i).toNat)
  case atStart => exact ⟨0, n, Nat.zero_le _, hq1, Nat.le_refl _, rfl, rfl⟩
  case round =>
    obtain ⟨a, b, ha, hb, hbn, rfl, rfl⟩ := hrel
    by_cases hlt : a < b
    · have e0 : (a : Int) < (b : Int) := by omega
      have e2 : (0 : Int) ≤ ((a : Int) + (b : Int)) / 2 := by omega
      have e3 : ((a : Int) + (b : Int)) / 2 < (n : Int) := by omega
      have e4 : IntKind.i64.wrap (((a : Int) + (b : Int)) / 2 + 1) = ((a : Int) + (b : Int)) / 2 + 1 := IntWalk.i64_in _ (by omega)
      obtain ⟨g, p, x, rfl, c1, c2, hx, hxi⟩ := HA.out ((a + b) / 2) (by omega)
      have hc := afterC_ok w p x.pg page c2 hx hp
      have HC := Lib.hid hc
      have HX := Lib.hid hxi
      clear hc hxi
      by_cases hlp : x.pg < page
      · have t1 : (x.pg : Int) - (page : Int) < 0 := by omega
        have HL := Lib.hid hlp
        clear hlp
        go_wp2_with (go_at_call 95; refine HC.out.mono ?_; rintro e w' ⟨rfl, rfl⟩)
        have := HX.out.1 HL.out
        exact ⟨⟨(a + b) / 2 + 1, b, by omega, hb, hbn, by congr 1, rfl⟩, by simp [intOf]; omega⟩
      · have t1 : ¬ (x.pg : Int) - (page : Int) < 0 := by omega
        have HL := Lib.hid hlp
        clear hlp
        go_wp2_with (go_at_call 95; refine HC.out.mono ?_; rintro e w' ⟨rfl, rfl⟩)
        have : ¬ (a + b) / 2 < q := fun h => HL.out (HX.out.2 h)
        exact ⟨⟨a, (a + b) / 2, ha, by omega, by omega, rfl, by congr 1⟩, by simp [intOf]; omega⟩
    · obtain rfl : a = q := by omega
      have e0 : ¬ (a : Int) < (b : Int) := by omega
      have e5 : (0 : Int) ≤ (a : Int) := by omega
      by_cases hqn : a < n
      · have e6 : (a : Int) < (n : Int) := by omega
        obtain ⟨g, p, x, rfl, c1, c2, hx, hxi⟩ := HA.out a hqn
        have hc := afterC_ok w p x.pg page c2 hx hp
        have HC := Lib.hid hc
        clear hc hxi
        go_wp2_with (go_at_call 95; refine HC.out.mono ?_; rintro e w' ⟨rfl, rfl⟩)
        go_ret2
        exact ⟨⟨_, rfl⟩, rfl⟩
      · have e6 : ¬ (a : Int) < (n : Int) := by omega
        go_wp2
        go_ret2
        exact ⟨⟨_, rfl⟩, rfl⟩

set_option maxRecDepth 100000 in
set_option maxHeartbeats 1000000 in
theorem after_ok (w : World) (c : Nat) (A : Option Addr) (cap page : Nat) (R : List Nat) (l : List Slb) (hc : w.cell? ⟨c, 4, none⟩ = some (.slice A R.length cap)) (hrow : w.ownsRow 0 97 1 (.slice A R.length cap) R.length (ptrs R)) (hlen : R.length = l.length) (hl : l.length ≤ 1024) (hasc : l.Pairwise fun a b => a.pg < b.pg) (hpg : PgAt w R l) (hp : page ≤ 1024) :
    Calls Try.prog 75 #[.pointer (some ⟨c, 0, none⟩), .int .i64 (page : Int)] w fun e w' => SearchR (posS l page) e ∧ w = w' := by
  have hs := search_ok w A cap page R l hrow hlen hl hasc hpg hp
  obtain ⟨q, hq⟩ : ∃ q, q = posS l page := ⟨_, rfl⟩
  rw [← hq] at hs ⊢
  have HS := Lib.hid hs
  clear hrow hpg hasc hs hq hlen hl hp
  generalize R.length = n at *
  go_enter Try.func75, Try.ntmps75
  go_wp2_with (go_at_call 94; fail)
  refine HS.out.mono ?_
  rintro e w' ⟨⟨f, rfl⟩, rfl⟩
  go_wp2
  go_ret2
  exact ⟨⟨f, rfl⟩, rfl⟩
end Sl
end Go.Proofs.Ytlknhbcambdccaa
namespace Go.Proofs.Ytlknhbcambdccaa
open Go.RowKit
namespace Sl
open Bu

theorem ptr_info : (Try.prog.info? 97).map (fun i => (i.zero.isSome, i.zero.map (fun z => z.cells.size), i.size, i.bytes)) = some (true, some 1, 1, 8) := by kernel_rfl
theorem ptr_size : (Try.prog.info? 97).map (·.size) = some 1 := by kernel_rfl

/-- The cells of a row. -/
theorem row_form {w : World} {B e u n cap : Nat} {xs : List Value} (h : w.ownsRow B e 1 (.slice (some ⟨u, 0, none⟩) n cap) n xs) :
    ∃ cur : Array Value, w.heap[u]? = some (.cells cur e (0, 0)) ∧ cur.size = cap ∧ cur.toList.take n = xs ∧ n ≤ cap ∧ cap ≤ maxLen := by
  rcases h.2 with ⟨hv, _⟩ | ⟨g, cp, cur, hv, _, hg, h1, h2, h3, hx⟩
  · cases hv
  · injection hv with e1 e2 e3
    injection e1 with e1; injection e1 with e1
    subst e1; subst e3
    exact ⟨cur, hg, by omega, by rw [Nat.mul_one] at hx; exact hx, h1, h2⟩
theorem row_make {w : World} {B e u n cap : Nat} {xs : List Value} {cur : Array Value} (hg : w.heap[u]? = some (.cells cur e (0, 0))) (hs : cur.size = cap) (hx : cur.toList.take n = xs) (hn : n ≤ cap) (hc : cap ≤ maxLen) (hB : B ≤ u) :
    w.ownsRow B e 1 (.slice (some ⟨u, 0, none⟩) n cap) n xs := by
  refine ⟨?_, .inr ⟨u, cap, cur, rfl, hB, hg, hn, hc, by omega, by rw [Nat.mul_one]; exact hx⟩⟩
  rw [← hx, List.length_take, Array.length_toList]; omega

theorem row_insert {cur : List Value} {R : List Nat} {i px : Nat} (hx : cur.take (R.length + 1) = ptrs R ++ [.pointer none]) (hi : i ≤ R.length) (hl : R.length + 1 ≤ cur.length) :
    ((cur.take (i + 1) ++ ((ptrs R).drop i ++ cur.drop (i + 1 + ((ptrs R).drop i).length))).set i (.pointer (some ⟨px, 0, none⟩))).take (R.length + 1) = ptrs (R.take i ++ px :: R.drop i) := by
  have hpl := ptrs_len R
  have hdl : ((ptrs R).drop i).length = R.length - i := by rw [List.length_drop, hpl]
  have e1 : (cur.take (i + 1)).set i (.pointer (some ⟨px, 0, none⟩)) = (ptrs R).take i ++ [.pointer (some ⟨px, 0, none⟩)] := by
    have : cur.take (i + 1) = (ptrs R ++ [Value.pointer none]).take (i + 1) := by rw [← hx, List.take_take]; congr 1; omega
    rw [this]
    apply List.ext_getElem?
    intro j
    rw [List.getElem?_set]
    by_cases e : i = j
    · subst e
      have : i < ((ptrs R ++ [Value.pointer none]).take (i + 1)).length := by simp [hpl]; omega
      rw [if_pos rfl, if_pos this, List.getElem?_append_right (by simp [hpl]; omega)]
      simp [hpl, Nat.min_eq_left hi]
    · rw [if_neg e, List.getElem?_take]
      by_cases hj : j < i
      · rw [if_pos (by omega), List.getElem?_append_left (by omega), List.getElem?_append_left (by simp [hpl]; omega), List.getElem?_take, if_pos hj]
      · rw [if_neg (by omega)]
        symm
        apply List.getElem?_eq_none
        simp [hpl]; omega
  rw [List.set_append_left _ _ (by simp; omega), e1, ← List.append_assoc, List.take_append_of_le_length (by simp [hpl]; omega)]
  rw [List.take_of_length_le (by simp [hpl]; omega)]
  unfold ptrs
  simp [List.map_take, List.map_drop]

set_option maxRecDepth 100000 in
/-- copy onto a row of pointers, whatever the parts are. -/
theorem wpList_copy_ptr {w : World} {ops : Array Oper} {rest : List Oper} {o : Oper} {a : Act} {Q : Exit → Act → World → Prop} (hgd : o.guard = none) (d s : Operand)
    (ho : o.op = .call { callee := .builtin .copy, args := #[d, s], argTypes := #[76, 76] })
    (g i n cap : Nat) (dp : Option Addr) (dCap sCap : Nat) (hd : a.eval d = .slice dp (n - i) dCap) (hs : a.eval s = .slice (some ⟨g, i, none⟩) (n + 1 - i) sCap) (hdp : i < n → dp = some ⟨g, i + 1, none⟩) (hin : i ≤ n)
    (cur : Array Value) (hg : w.heap[g]? = some (.cells cur 97 (0, 0))) (cs : List Value) (hcs : cs = (cur.toList.drop i).take (n - i)) (hcl : n + 1 ≤ cur.size) (hone : ∀ v ∈ cs, v.oneCell' = true)
    (h : ∀ w', OnlyB (some g) w w' → w'.heap[g]? = some (.cells (cur.toList.take (i + 1) ++ (cs ++ cur.toList.drop (i + 1 + cs.length))).toArray 97 (0, 0)) → wpList Try.prog ops Q rest (a.put o.dst (goInt cs.length)) w') : wpList Try.prog ops Q (o :: rest) a w := by
  have hlen : cs.length = n - i := by rw [hcs, List.length_take, List.length_drop, Array.length_toList]; omega
  have hmin : Nat.min (n + 1 - i) (n - i) = n - i := Nat.min_eq_right (by omega)
  by_cases h0 : n - i = 0
  · have hcs0 : cs = [] := List.length_eq_zero_iff.1 (by omega)
    refine wpList_copy_nothing hgd d s 76 76 ho 97 Try.underlying76 ptr_size dp _ (n - i) dCap (n + 1 - i) sCap hd hs (by rw [hmin, h0]) ?_
    have := h w ⟨rfl, rfl, rfl, rfl, fun _ _ => rfl⟩ (by rw [hcs0]; simpa using hg)
    rw [hcs0] at this
    exact this
  · rw [hdp (by omega)] at hd
    refine wpList_copy_own hgd d s 76 76 ho 97 Try.underlying76 ptr_size g (i + 1) (n - i) dCap ⟨g, i, none⟩ (n + 1 - i) sCap hd hs cur 97 hg cs (by rw [hmin]; exact hlen) (fun j v hj => ?_) (by omega) hone ?_
    · rw [add_plain, cell_of_row _ _ _ _ _ _ hg]
      rw [hcs, List.getElem?_take] at hj
      split at hj
      · rw [List.getElem?_drop] at hj
        rw [← Array.getElem?_toList]; exact hj
      · cases hj
    · exact h _ ⟨rfl, rfl, rfl, by simp [World.setRow], fun k hk => setRow_other w g k _ (fun e => hk (by rw [e]))⟩ (setRow_heap w g _ _ _ _ hg)
end Sl
end Go.Proofs.Ytlknhbcambdccaa
namespace Go.Proofs.Ytlknhbcambdccaa
open Go.RowKit
namespace Sl
open Bu

/-- What insert leaves: the row has one more pointer; only the cache's block and its row are written. -/
def InsR (c : Nat) (x0 x1 x2 x3 x5 : Value) (A : Option Addr) (R : List Nat) (i px : Nat) (w : World) (e : Ending) (w' : World) : Prop :=
  e = .returned (.tuple #[]) ∧ ∃ g cap', w'.heap[c]? = some (.cells #[x0, x1, x2, x3, .slice (some ⟨g, 0, none⟩) (R.length + 1) cap', x5] 78 (0, 0)) ∧
    w'.ownsRow 0 97 1 (.slice (some ⟨g, 0, none⟩) (R.length + 1) cap') (R.length + 1) (ptrs (R.take i ++ px :: R.drop i)) ∧
    (A.map (·.block) = some g ∨ w.heap.size ≤ g) ∧ (∀ k, k < w.heap.size → k ≠ c → A.map (·.block) ≠ some k → w'.heap[k]? = w.heap[k]?) ∧
    w'.os = w.os ∧ w'.tape = w.tape ∧ w'.output = w.output ∧ w.heap.size ≤ w'.heap.size

theorem own_blk {A : Option Addr} {n cap : Nat} : (Value.slice A n cap).ownBlock = A.map (·.block) := by cases A <;> rfl

attribute [local irreducible] wpStill
set_option maxRecDepth 100000 in
set_option maxHeartbeats 4000000 in
theorem insert_ok (w : World) (c px pg : Nat) (x0 x1 x2 x3 x5 : Value) (A : Option Addr) (cap : Nat) (R : List Nat) (l : List Slb)
    (hc : w.heap[c]? = some (.cells #[x0, x1, x2, x3, .slice A R.length cap, x5] 78 (0, 0))) (hrow : w.ownsRow 0 97 1 (.slice A R.length cap) R.length (ptrs R)) (hlen : R.length = l.length) (hl : l.length ≤ 1023)
    (hasc : l.Pairwise fun a b => a.pg < b.pg) (hpg : PgAt w R l) (hp : pg ≤ 1024) (hx : w.cell? ⟨px, 0, none⟩ = some (.int .i64 (pg : Int))) (hA : A.map (·.block) ≠ some c) :
    Calls Try.prog 41 #[.pointer (some ⟨c, 0, none⟩), .pointer (some ⟨px, 0, none⟩)] w fun e w' => InsR c x0 x1 x2 x3 x5 A R (posS l pg) px w e w' := by
  have hcl := lt_of_heap hc
  obtain ⟨c0, c1, c2, c3, c4, c5, f4, f5⟩ := six_cells hc
  have haf := after_ok w c A cap pg R l c4 hrow hlen (by omega) hasc hpg hp
  have hil := posS_le l pg
  obtain ⟨i, hi⟩ : ∃ i, i = posS l pg := ⟨_, rfl⟩
  rw [← hi] at haf hil ⊢
  have HAf := Lib.hid haf
  obtain ⟨i0, z0, hi0, hz0, hz1, hz2, hz3⟩ := info_open ptr_info
  obtain ⟨n, hn⟩ : ∃ n, n = R.length := ⟨_, rfl⟩
  have hin : i ≤ n := by omega
  have hn1 : n ≤ 1023 := by omega
  have HR := Lib.hid (And.intro hrow (And.intro hc (And.intro hA hn)))
  have HX := Lib.hid hx
  rw [← hn] at c4
  clear haf hi hrow hpg hasc hlen hl hil hA hc c0 c1 c2 c3 c5 f5 hp hn
  have hnr := HR.out.2.2.2
  go_enter Try.func41, Try.ntmps41
  go_wp2_with (go_at_call 75; fail)
  refine HAf.out.mono ?_
  rintro e w' ⟨⟨f, rfl⟩, rfl⟩
  have e0 : (0 : Int) ≤ (i : Int) := by omega
  have HN := Lib.hid hnr
  clear hnr
  have c4a : (w.alloc (.cells #[.pointer none] 97)).cell? ⟨c, 4, none⟩ = some (.slice A n cap) := (World.cell?_alloc_lt _ _ _ hcl).trans c4
  go_wp2_with (at_builtin; refine wpList_append_lies _ rfl (.tmp 19) (.tmp 20) _ rfl 0 97 i0 z0 1 8 Try.underlying76 hi0 hz0 hz1 hz2 hz3 (by omega) (.slice A n cap) n (ptrs R) rfl (by have := HR.out.1; rw [← HN.out] at this; exact this.alloc _) ⟨w.heap.size, 0, none⟩ 1 1 [.pointer none] rfl rfl (World.news_of_block (heap_alloc_new _ _)) (by simp [Value.oneCell']) (by omega) (by unfold maxLen; omega) (by omega) (by simp) (w.heap.size + 1) (by simp) ?_
               intro g1 cap1 w1 hown1 hgrow1 hat1 hlt1
               have hcn : some c ≠ (Value.slice A n cap).ownBlock := fun e => HR.out.2.2.1 (by rw [e, own_blk])
               have m0 : w1.heap[c]? = some (.cells #[x0, x1, x2, x3, .slice A n cap, x5] 78 (0, 0)) := by rw [hgrow1.block c (by simp; omega) hcn, alloc_old _ _ _ hcl, HN.out]; exact HR.out.2.1
               have hgc : g1 ≠ c := fun e => by
                 rcases hat1 with h | h
                 · exact hcn (by rw [← e]; exact h.symm)
                 · omega
               obtain ⟨_, _, _, _, d4, _, f4', _⟩ := six_cells m0
               have H1 := Lib.hid (And.intro hown1 (And.intro hgrow1 (And.intro hat1 m0)))
               clear hown1 hgrow1 hat1 m0 hcn)
  have m2 := setCell_at w1 c 4 _ _ (.slice (some ⟨g1, 0, none⟩) (n + 1) cap1) H1.out.2.2.2
  obtain ⟨cur, hcur, hcs, hct, hcn1, hcm⟩ := row_form H1.out.1
  have hcur2 : (w1.setCell ⟨c, 4, none⟩ (.slice (some ⟨g1, 0, none⟩) (n + 1) cap1)).heap[g1]? = some (.cells cur 97 (0, 0)) := (setCell_far _ _ _ _ hgc).trans hcur
  have hfar : ∀ k, k ≠ c → (w1.setCell ⟨c, 4, none⟩ (.slice (some ⟨g1, 0, none⟩) (n + 1) cap1)).heap[k]? = w1.heap[k]? := fun k hk => setCell_far _ _ _ _ hk
  have hsz2 : (w1.setCell ⟨c, 4, none⟩ (.slice (some ⟨g1, 0, none⟩) (n + 1) cap1)).heap.size = w1.heap.size := setCell_size _ _ _
  have hmeta : (w1.setCell ⟨c, 4, none⟩ (.slice (some ⟨g1, 0, none⟩) (n + 1) cap1)).os = w1.os ∧ (w1.setCell ⟨c, 4, none⟩ (.slice (some ⟨g1, 0, none⟩) (n + 1) cap1)).tape = w1.tape ∧ (w1.setCell ⟨c, 4, none⟩ (.slice (some ⟨g1, 0, none⟩) (n + 1) cap1)).output = w1.output := ⟨rfl, rfl, rfl⟩
  generalize w1.setCell ⟨c, 4, none⟩ (.slice (some ⟨g1, 0, none⟩) (n + 1) cap1) = W2 at *
  obtain ⟨_, _, _, _, k4, _, _, _⟩ := six_cells m2
  obtain ⟨n1, hn1e⟩ : ∃ n1, n1 = n + 1 := ⟨_, rfl⟩
  obtain ⟨i1, hi1e⟩ : ∃ i1, i1 = i + 1 := ⟨_, rfl⟩
  rw [← hn1e] at k4 hcn1 hct m2 ⊢
  unfold maxLen at hcm
  have hi1 : IntKind.i64.wrap ((i : Int) + 1) = (i1 : Int) := by rw [IntWalk.i64_in _ (by omega)]; omega
  have u1 : (0 : Int) ≤ (i1 : Int) := by omega
  have u2 : (i1 : Int) ≤ (n1 : Int) := by omega
  have u3 : (n1 : Int) ≤ (cap1 : Int) := by omega
  have u4 : (i : Int) ≤ (n1 : Int) := by omega
  have u5 : ¬ cap1 = i := by omega
  have HM := Lib.hid (And.intro m2 (And.intro hcur2 (And.intro hcs (And.intro hct (And.intro hfar (And.intro hsz2 hmeta))))))
  have HE := Lib.hid (And.intro hn1e hi1e)
  have hcl2 : n + 1 ≤ cur.size := by omega
  clear m2 hcur hcur2 hcs hct hfar hsz2 hn1e hi1e d4 c4a c4 hmeta
  refine wp_region_still_tail 13 (by kernel_rfl) (by kernel_rfl) ?_
  simp only [List.take_succ_cons, List.take_zero, List.drop_succ_cons, List.drop_zero]
  change wpStill _ _ (World.drew _) (fun a' => wpList _ _ _ _ a' (World.drew _)) _ _
  iterate 13 still_step
  refine wpStill_nil ?_
  have hcsE : (cur.toList.drop i).take (n - i) = (ptrs R).drop i := by
    have h1 : cur.toList.take n = ptrs R := by
      have h2 : cur.toList.take n = (cur.toList.take n1).take n := by rw [List.take_take]; congr 1; have := HE.out.1; omega
      rw [h2, HM.out.2.2.2.1, List.take_append_of_le_length (by rw [ptrs_len]; have := HN.out; omega), List.take_of_length_le (by rw [ptrs_len]; have := HN.out; omega)]
    rw [← h1, List.drop_take]
  have hdl : ((ptrs R).drop i).length = n - i := by rw [List.length_drop, ptrs_len, HN.out]
  refine wpList_copy_ptr rfl (.tmp 30) (.tmp 36) rfl g1 i n cap1 (if cap1 = i1 then some ⟨g1, 0, none⟩ else some ⟨g1, i1, none⟩) (cap1 - i1) (cap1 - i) (by rw [show n - i = n1 - i1 by have := HE.out; omega]; rfl) (by rw [← HE.out.1]; rfl) (fun h => by rw [if_neg (by have := HE.out; omega), HE.out.2]) hin cur HM.out.2.1 ((ptrs R).drop i) hcsE.symm hcl2 (fun v hv => by have := List.mem_of_mem_drop hv; unfold ptrs at this; obtain ⟨p, _, rfl⟩ := List.mem_map.1 this; rfl) ?_
  intro w3 hob hg3
  have H3 := Lib.hid (And.intro hob hg3)
  have k4 : w3.cell? ⟨c, 4, none⟩ = some (.slice (some ⟨g1, 0, none⟩) n1 cap1) := (World.cell?_of_block (a := ⟨c, 4, none⟩) (hob.block c (fun e => hgc (by injection e)))).trans k4
  have hLl : i < (cur.toList.take (i + 1) ++ ((ptrs R).drop i ++ cur.toList.drop (i + 1 + ((ptrs R).drop i).length))).length := by simp; omega
  obtain ⟨v0, hv0⟩ : ∃ v0, (cur.toList.take (i + 1) ++ ((ptrs R).drop i ++ cur.toList.drop (i + 1 + ((ptrs R).drop i).length)))[i]? = some v0 := ⟨_, List.getElem?_eq_getElem hLl⟩
  have hc3 : w3.cell? ⟨g1, i, none⟩ = some v0 := by rw [cell_of_row _ _ _ _ _ _ hg3]; simpa using hv0
  have hf3 : w3.frozen? ⟨g1, i, none⟩ = false := by simp [World.frozen?, hg3]
  clear hob hg3 hLl hv0
  have hlt3 : (i : Int) < (n1 : Int) := by have := HE.out; omega
  go_wp2_with (fail)
  all_goals
    go_end0
    refine ⟨rfl, g1, cap1, ?_, ?_, ?_, fun k hk hkc hkA => ?_, ?_, ?_, ?_, ?_⟩
    · rw [setCell_far _ _ _ _ (show c ≠ g1 from fun e => hgc e.symm), H3.out.1.block c (fun e => hgc (by injection e)), ← HN.out]
      have := HM.out.1
      rw [HE.out.1] at this
      exact this
    · refine row_make (cur := (cur.toList.take (i + 1) ++ ((ptrs R).drop i ++ cur.toList.drop (i + 1 + ((ptrs R).drop i).length))).toArray.setIfInBounds i (.pointer (some ⟨px, 0, none⟩))) (setCell_at _ _ _ _ _ _ H3.out.2) ?_ ?_ (by have := HE.out.1; have := HN.out; omega) (by unfold maxLen; omega) (Nat.zero_le _)
      · have := HM.out.2.2.1
        simp [hdl]
        have := HE.out.1
        omega
      · rw [Array.toList_setIfInBounds]
        have h1 := HM.out.2.2.2.1
        rw [HE.out.1, HN.out] at h1
        exact row_insert h1 (by have := HN.out; omega) (by have := HN.out; simp; omega)
    · rcases H1.out.2.2.1 with h | h
      · exact .inl (by rw [← own_blk (n := n) (cap := cap)]; exact h)
      · exact .inr (by omega)
    · have hkg : k ≠ g1 := fun e => by
        rcases H1.out.2.2.1 with h | h
        · exact hkA (by rw [← own_blk (n := n) (cap := cap), h, e])
        · omega
      rw [setCell_far _ _ _ _ hkg, H3.out.1.block k (fun e => hkg (by injection e with e; exact e.symm)), show (World.drew W2).heap[k]? = W2.heap[k]? from rfl, HM.out.2.2.2.2.1 k hkc, H1.out.2.1.block k (by simp; omega) (fun e => hkA (by rw [← own_blk (n := n) (cap := cap), ← e])), alloc_old _ _ _ hk]
    · exact (H3.out.1.os.trans HM.out.2.2.2.2.2.2.1).trans H1.out.2.1.os
    · exact (H3.out.1.tape.trans HM.out.2.2.2.2.2.2.2.1).trans H1.out.2.1.tape
    · exact (H3.out.1.output.trans HM.out.2.2.2.2.2.2.2.2).trans H1.out.2.1.output
    · rw [setCell_size, H3.out.1.size]
      have h1 := H1.out.2.1.size
      rw [World.size_alloc] at h1
      have h2 := HM.out.2.2.2.2.2.1
      show w.heap.size ≤ W2.heap.size
      omega
end Sl
end Go.Proofs.Ytlknhbcambdccaa
