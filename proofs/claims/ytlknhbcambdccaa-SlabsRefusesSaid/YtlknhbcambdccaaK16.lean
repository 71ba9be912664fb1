/- Owner of a cache. Slabs, plain: where a slab is put, which one is selected. Caches: where a slab is put; what is considered. insert: a slab is put in its place. -/
import Derived.Test.YtlknhbcambdccaaK15
import Derived.BigQuiet
import Derived.Test.YtlknhbcambdccaaK1
import Derived.Deep.AppendLies
import Derived.Laws.CopyOwn
import Derived.Deep.RegionWith
import Derived.StillTailTactics
namespace Go.Proofs.Ytlknhbcambdccaa
open Go.RowKit
namespace Sl
open Bu

/-- Owner: the object's address, and whether it is allocated. -/
def ownerC (C : Ca) (at_ : Int) : Option (Nat × Bool) :=
  match holdS C.order 0 C.sl at_ with
  | none => none
  | some (j, d) => match C.sl[j]? with
    | none => none
    | some x => match x.us[d / C.size]? with
      | none => none
      | some v => some (addrS C.size x (d / C.size), v)

set_option maxRecDepth 100000 in
set_option maxHeartbeats 4000000 in
theorem ownerS_none (w : World) (own : Own?) (c b : Nat) (C : Ca) (N : Nat) (L : List Blk) (H : Held w own c b C N L) (at_ : Int) (ha1 : -9223372036854775808 ≤ at_) (ha2 : at_ < 9223372036854775808) (hno : holdS C.order 0 C.sl at_ = none) :
    Calls Try.prog 13 #[.pointer (some ⟨c, 0, none⟩), .int .i64 at_] w fun e w' => e = .returned (.tuple #[.int .i64 0, .bool false, .int .i64 4]) ∧ ∃ n, w' = w.drewN n := by
  obtain ⟨A, cap, R, hC⟩ := H.at_
  have hpg : ∀ x ∈ C.sl, x.pg ≤ 1024 := fun x hx => by
    have h2 : x.pg + 2 ^ C.order ≤ 1024 := (st_le H.ok.st _ (H.ok.giv x hx)).2
    have := pow_pos2 C.order
    omega
  have hh := holder_ok w own c b C _ A cap R hC hpg H.ok.od H.ok.sz.2.1 at_ ha1 ha2
  unfold HoldR at hh
  rw [hno] at hh
  obtain ⟨c0, c1, _, _, _, _, _, _⟩ := six_cells hC.cell
  have HD := Lib.hid (dead_ok w c (some ⟨b, 0, none⟩) c0)
  have HH := Lib.hid hh
  have hsz : (C.size : Int) ≠ 0 := by have := H.ok.sz.1; omega
  have hq : ∀ w : World, (binOp .eql 97 (.pointer none) (.pointer none)).run Try.prog w = .ok (.bool true) w := fun w => run_eql_ptr_nil Try.prog w 97 _ none Try.underlying97
  clear hh hno hpg hC H c0
  go_enter Try.func13, Try.ntmps13
  go_wp2_with (first | (go_at_call 34; refine HD.out.mono ?_; rintro e w' ⟨rfl, rfl⟩) | (go_at_call 35; refine HH.out.mono ?_; rintro e w' ⟨rfl, d, rfl⟩))
  exact bodyPost_ret (v := .tuple #[.int .i64 0, .bool false, .int .i64 4]) (by simp [results, Try.results13, go_sem]) rfl ⟨rfl, _, rfl⟩
end Sl
end Go.Proofs.Ytlknhbcambdccaa
namespace Go.Proofs.Ytlknhbcambdccaa
namespace Bu

/-- The first slab at a page or after it. -/
def posS (l : List Slb) (p : Nat) : Nat := (l.takeWhile fun x => decide (x.pg < p)).length
theorem posS_le (l : List Slb) (p : Nat) : posS l p ≤ l.length := (List.takeWhile_sublist _).length_le
theorem posS_iff {p : Nat} : ∀ {l : List Slb}, l.Pairwise (fun a b => a.pg < b.pg) → ∀ (i : Nat) (x : Slb), l[i]? = some x → (x.pg < p ↔ i < posS l p) := by
  intro l
  induction l with
  | nil => intro _ i x h; simp at h
  | cons y l ih =>
    intro h i x hx
    rw [List.pairwise_cons] at h
    unfold posS
    rw [List.takeWhile_cons]
    by_cases e : y.pg < p
    · simp only [e, decide_true, if_true, List.length_cons]
      cases i with
      | zero => simp at hx; subst hx; exact ⟨fun _ => by omega, fun _ => e⟩
      | succ i =>
        have := ih h.2 i x (by simpa using hx)
        unfold posS at this
        rw [this]; omega
    · simp only [e, decide_false]
      refine ⟨fun hlt => ?_, fun hl => by simp at hl⟩
      exfalso
      cases i with
      | zero => simp at hx; subst hx; exact e hlt
      | succ i =>
        have := h.1 x (List.mem_of_getElem? (by simpa using hx))
        omega
theorem insS_at {x : Slb} : ∀ {l : List Slb}, (∀ y ∈ l, y.pg ≠ x.pg) → insS l x = l.take (posS l x.pg) ++ x :: l.drop (posS l x.pg) := by
  intro l
  induction l with
  | nil => intro _; rfl
  | cons y l ih =>
    intro hne
    unfold insS posS
    rw [List.takeWhile_cons]
    by_cases e : y.pg < x.pg
    · rw [if_neg (by omega)]
      simp only [e, decide_true, if_true, List.length_cons, List.take_succ_cons, List.drop_succ_cons]
      rw [ih fun z hz => hne z (List.mem_cons_of_mem _ hz)]
      rfl
    · have := hne y (List.mem_cons_self ..)
      rw [if_pos (by omega)]
      simp [e]

/-- One slab considered. -/
def stepS (i : Nat) (a : Option (Nat × Nat)) (x : Slb) : Option (Nat × Nat) := if x.many < x.us.length ∧ (∀ p, a = some p → p.2 < x.many) then some (i, x.many) else a
theorem pickS_cons (i : Nat) (a : Option (Nat × Nat)) (x : Slb) (l : List Slb) : pickS i a (x :: l) = pickS (i + 1) (stepS i a x) l := rfl
theorem pickS_snoc (x : Slb) : ∀ (l : List Slb) (i : Nat) (a : Option (Nat × Nat)), pickS i a (l ++ [x]) = stepS (i + l.length) (pickS i a l) x := by
  intro l
  induction l with
  | nil => intro i a; rfl
  | cons y l ih =>
    intro i a
    rw [List.cons_append, pickS_cons, pickS_cons, ih, List.length_cons]
    congr 1
    omega
theorem pickS_take {l : List Slb} {k : Nat} {x : Slb} (h : l[k]? = some x) : pickS 0 none (l.take (k + 1)) = stepS k (pickS 0 none (l.take k)) x := by
  obtain ⟨hk, he⟩ := List.getElem?_eq_some_iff.1 h
  rw [List.take_succ_eq_append_getElem hk, pickS_snoc, he, List.length_take, Nat.min_eq_left (by omega), Nat.zero_add]
theorem pickS_some {l : List Slb} : ∀ {k j m : Nat}, k ≤ l.length → pickS 0 none (l.take k) = some (j, m) → ∃ x, l[j]? = some x ∧ x.many = m ∧ m < x.us.length ∧ j < k := by
  intro k
  induction k with
  | zero => intro j m _ h; rw [List.take_zero] at h; cases h
  | succ k ih =>
    intro j m hk h
    obtain ⟨x, hx⟩ : ∃ x, l[k]? = some x := ⟨_, List.getElem?_eq_getElem (by omega)⟩
    rw [pickS_take hx] at h
    unfold stepS at h
    split at h
    · next hc =>
      injection h with h
      injection h with h1 h2
      subst h1
      exact ⟨x, hx, h2, by rw [← h2]; exact hc.1, by omega⟩
    · obtain ⟨y, hy, h1, h2, h3⟩ := ih (by omega) h
      exact ⟨y, hy, h1, h2, by omega⟩
theorem pickS_none {l : List Slb} : ∀ {k : Nat}, k ≤ l.length → pickS 0 none (l.take k) = none → ∀ (i : Nat) (x : Slb), i < k → l[i]? = some x → x.us.length ≤ x.many := by
  intro k
  induction k with
  | zero => intro _ _ i x hi; omega
  | succ k ih =>
    intro hk h i x hi hx
    obtain ⟨y, hy⟩ : ∃ y, l[k]? = some y := ⟨_, List.getElem?_eq_getElem (by omega)⟩
    rw [pickS_take hy] at h
    unfold stepS at h
    split at h
    · cases h
    · next hc =>
      by_cases e : i = k
      · subst e
        rw [hy] at hx
        injection hx with hx
        subst hx
        refine Nat.le_of_not_lt fun hlt => hc ⟨hlt, fun p hp => ?_⟩
        rw [h] at hp; cases hp
      · exact ih (by omega) h i x (by omega) hx
end Bu
end Go.Proofs.Ytlknhbcambdccaa
namespace Go.Proofs.Ytlknhbcambdccaa
open Go.RowKit
namespace Sl
open Bu

set_option maxRecDepth 100000 in
theorem afterC_ok (w : World) (p pg page : Nat) (h : w.cell? ⟨p, 0, none⟩ = some (.int .i64 (pg : Int))) (h1 : pg ≤ 1024) (h2 : page ≤ 1024) :
    Calls Try.prog 95 #[.pointer (some ⟨p, 0, none⟩), .int .i64 (page : Int)] w fun e w' => e = .returned (.int .i64 ((pg : Int) - (page : Int))) ∧ w = w' := by
  have hw : IntKind.i64.wrap ((pg : Int) - (page : Int)) = (pg : Int) - (page : Int) := IntWalk.i64_in _ (by omega)
  go_enter Try.func95, Try.ntmps95
  go_wp2
  go_ret
  exact ⟨rfl, rfl⟩

/-- What the search returns. -/
def SearchR (q : Nat) (e : Ending) : Prop := ∃ f, e = .returned (.tuple #[.int .i64 (q : Int), .bool f])

/-- The slabs' pages, as the row of pointers leads to them. -/
def PgAt (w : World) (R : List Nat) (l : List Slb) : Prop := ∀ (i p : Nat) (x : Slb), R[i]? = some p → l[i]? = some x → w.cell? ⟨p, 0, none⟩ = some (.int .i64 (x.pg : Int)) ∧ x.pg ≤ 1024

set_option maxRecDepth 100000 in
set_option maxHeartbeats 2000000 in
theorem search_ok (w : World) (A : Option Addr) (cap page : Nat) (R : List Nat) (l : List Slb) (hrow : w.ownsRow 0 97 1 (.slice A R.length cap) R.length (ptrs R)) (hlen : R.length = l.length) (hl : l.length ≤ 1024) (hasc : l.Pairwise fun a b => a.pg < b.pg) (hpg : PgAt w R l) (hp : page ≤ 1024) :
    Calls Try.prog 94 #[.slice A R.length cap, .int .i64 (page : Int), .func (.func 95) #[] #[]] w fun e w' => SearchR (posS l page) e ∧ w = w' := by
  obtain ⟨n, hn⟩ : ∃ n, n = R.length := ⟨_, rfl⟩
  have hpl := posS_le l page
  obtain ⟨q, hq⟩ : ∃ q, q = posS l page := ⟨_, rfl⟩
  have hiff := fun i x hx => posS_iff (p := page) hasc i x hx
  rw [← hq] at hiff hpl ⊢
  have hat : ∀ i, i < n → ∃ (g p : Nat) (x : Slb), A = some ⟨g, 0, none⟩ ∧ w.cell? ⟨g, i, none⟩ = some (.pointer (some ⟨p, 0, none⟩)) ∧ w.cell? ⟨p, 0, none⟩ = some (.int .i64 (x.pg : Int)) ∧ x.pg ≤ 1024 ∧ (x.pg < page ↔ i < q) := by
    intro i hi
    obtain ⟨p, hpp⟩ : ∃ p, R[i]? = some p := ⟨_, List.getElem?_eq_getElem (by omega)⟩
    obtain ⟨x, hx⟩ : ∃ x, l[i]? = some x := ⟨_, List.getElem?_eq_getElem (by omega)⟩
    obtain ⟨h1, h2⟩ := hpg i p x hpp hx
    obtain ⟨g, hA⟩ : ∃ g, A = some ⟨g, 0, none⟩ := by
      rcases hrow.2 with ⟨_, h0⟩ | ⟨g, c, cur, hv, _⟩
      · omega
      · injection hv with hv; exact ⟨g, hv⟩
    subst hA
    exact ⟨g, p, x, rfl, row_cell hrow (by unfold ptrs; rw [List.getElem?_map, hpp]; rfl), h1, h2, hiff i x hx⟩
  rw [← hn]
  have HA := Lib.hid hat
  have hq1 : q ≤ n := by omega
  have hn1 : n ≤ 1024 := by omega
  clear hat hiff hpg hrow hasc hn hq hpl
  go_enter Try.func94, Try.ntmps94
  go_wp2_with (fail)
  go_loop [9, 10, 11] (fun i j _ => ∃ a b : Nat, a ≤ q ∧ q ≤ b ∧ b ≤ n ∧ i = .int .i64 (a : Int) ∧ j = .int .i64 (b : Int)) (fun i j _ => (intOf j).toNat - (intOf i).toNat)
  case atStart => exact ⟨0, n, Nat.zero_le _, hq1, Nat.le_refl _, rfl, rfl⟩
  case round =>
    obtain ⟨a, b, ha, hb, hbn, rfl, rfl⟩ := hrel
    by_cases hlt : a < b
    · have e0 : (a : Int) < (b : Int) := by omega
      have e2 : (0 : Int) ≤ ((a : Int) + (b : Int)) / 2 := by omega
      have e3 : ((a : Int) + (b : Int)) / 2 < (n : Int) := by omega
      have e4 : IntKind.i64.wrap (((a : Int) + (b : Int)) / 2 + 1) = ((a : Int) + (b : Int)) / 2 + 1 := IntWalk.i64_in _ (by omega)
      obtain ⟨g, p, x, rfl, c1, c2, hx, hxi⟩ := HA.out ((a + b) / 2) (by omega)
      have hc := afterC_ok w p x.pg page c2 hx hp
      have HC := Lib.hid hc
      have HX := Lib.hid hxi
      clear hc hxi
      by_cases hlp : x.pg < page
      · have t1 : (x.pg : Int) - (page : Int) < 0 := by omega
        have HL := Lib.hid hlp
        clear hlp
        go_wp2_with (go_at_call 95; refine HC.out.mono ?_; rintro e w' ⟨rfl, rfl⟩)
        have := HX.out.1 HL.out
        exact ⟨⟨(a + b) / 2 + 1, b, by omega, hb, hbn, by congr 1, rfl⟩, by simp [intOf]; omega⟩
      · have t1 : ¬ (x.pg : Int) - (page : Int) < 0 := by omega
        have HL := Lib.hid hlp
        clear hlp
        go_wp2_with (go_at_call 95; refine HC.out.mono ?_; rintro e w' ⟨rfl, rfl⟩)
        have : ¬ (a + b) / 2 < q := fun h => HL.out (HX.out.2 h)
        exact ⟨⟨a, (a + b) / 2, ha, by omega, by omega, rfl, by congr 1⟩, by simp [intOf]; omega⟩
    · obtain rfl : a = q := by omega
      have e0 : ¬ (a : Int) < (b : Int) := by omega
      have e5 : (0 : Int) ≤ (a : Int) := by omega
      by_cases hqn : a < n
      · have e6 : (a : Int) < (n : Int) := by omega
        obtain ⟨g, p, x, rfl, c1, c2, hx, hxi⟩ := HA.out a hqn
        have hc := afterC_ok w p x.pg page c2 hx hp
        have HC := Lib.hid hc
        clear hc hxi
        go_wp2_with (go_at_call 95; refine HC.out.mono ?_; rintro e w' ⟨rfl, rfl⟩)
        go_ret2
        exact ⟨⟨_, rfl⟩, rfl⟩
      · have e6 : ¬ (a : Int) < (n : Int) := by omega
        go_wp2
        go_ret2
        exact ⟨⟨_, rfl⟩, rfl⟩

set_option maxRecDepth 100000 in
set_option maxHeartbeats 1000000 in
theorem after_ok (w : World) (c : Nat) (A : Option Addr) (cap page : Nat) (R : List Nat) (l : List Slb) (hc : w.cell? ⟨c, 4, none⟩ = some (.slice A R.length cap)) (hrow : w.ownsRow 0 97 1 (.slice A R.length cap) R.length (ptrs R)) (hlen : R.length = l.length) (hl : l.length ≤ 1024) (hasc : l.Pairwise fun a b => a.pg < b.pg) (hpg : PgAt w R l) (hp : page ≤ 1024) :
    Calls Try.prog 75 #[.pointer (some ⟨c, 0, none⟩), .int .i64 (page : Int)] w fun e w' => SearchR (posS l page) e ∧ w = w' := by
  have hs := search_ok w A cap page R l hrow hlen hl hasc hpg hp
  obtain ⟨q, hq⟩ : ∃ q, q = posS l page := ⟨_, rfl⟩
  rw [← hq] at hs ⊢
  have HS := Lib.hid hs
  clear hrow hpg hasc hs hq hlen hl hp
  generalize R.length = n at *
  go_enter Try.func75, Try.ntmps75
  go_wp2_with (go_at_call 94; fail)
  refine HS.out.mono ?_
  rintro e w' ⟨⟨f, rfl⟩, rfl⟩
  go_wp2
  go_ret2
  exact ⟨⟨f, rfl⟩, rfl⟩
end Sl
end Go.Proofs.Ytlknhbcambdccaa
namespace Go.Proofs.Ytlknhbcambdccaa
open Go.RowKit
namespace Sl
open Bu

theorem ptr_info : (Try.prog.info? 97).map (fun i => (i.zero.isSome, i.zero.map (fun z => z.cells.size), i.size, i.bytes)) = some (true, some 1, 1, 8) := by kernel_rfl
theorem ptr_size : (Try.prog.info? 97).map (·.size) = some 1 := by kernel_rfl

/-- The cells of a row. -/
theorem row_form {w : World} {B e u n cap : Nat} {xs : List Value} (h : w.ownsRow B e 1 (.slice (some ⟨u, 0, none⟩) n cap) n xs) :
    ∃ cur : Array Value, w.heap[u]? = some (.cells cur e (0, 0)) ∧ cur.size = cap ∧ cur.toList.take n = xs ∧ n ≤ cap ∧ cap ≤ maxLen := by
  rcases h.2 with ⟨hv, _⟩ | ⟨g, cp, cur, hv, _, hg, h1, h2, h3, hx⟩
  · cases hv
  · injection hv with e1 e2 e3
    injection e1 with e1; injection e1 with e1
    subst e1; subst e3
    exact ⟨cur, hg, by omega, by rw [Nat.mul_one] at hx; exact hx, h1, h2⟩
theorem row_make {w : World} {B e u n cap : Nat} {xs : List Value} {cur : Array Value} (hg : w.heap[u]? = some (.cells cur e (0, 0))) (hs : cur.size = cap) (hx : cur.toList.take n = xs) (hn : n ≤ cap) (hc : cap ≤ maxLen) (hB : B ≤ u) :
    w.ownsRow B e 1 (.slice (some ⟨u, 0, none⟩) n cap) n xs := by
  refine ⟨?_, .inr ⟨u, cap, cur, rfl, hB, hg, hn, hc, by omega, by rw [Nat.mul_one]; exact hx⟩⟩
  rw [← hx, List.length_take, Array.length_toList]; omega

theorem row_insert {cur : List Value} {R : List Nat} {i px : Nat} (hx : cur.take (R.length + 1) = ptrs R ++ [.pointer none]) (hi : i ≤ R.length) (hl : R.length + 1 ≤ cur.length) :
    ((cur.take (i + 1) ++ ((ptrs R).drop i ++ cur.drop (i + 1 + ((ptrs R).drop i).length))).set i (.pointer (some ⟨px, 0, none⟩))).take (R.length + 1) = ptrs (R.take i ++ px :: R.drop i) := by
  have hpl := ptrs_len R
  have hdl : ((ptrs R).drop i).length = R.length - i := by rw [List.length_drop, hpl]
  have e1 : (cur.take (i + 1)).set i (.pointer (some ⟨px, 0, none⟩)) = (ptrs R).take i ++ [.pointer (some ⟨px, 0, none⟩)] := by
    have : cur.take (i + 1) = (ptrs R ++ [Value.pointer none]).take (i + 1) := by rw [← hx, List.take_take]; congr 1; omega
    rw [this]
    apply List.ext_getElem?
    intro j
    rw [List.getElem?_set]
    by_cases e : i = j
    · subst e
      have : i < ((ptrs R ++ [Value.pointer none]).take (i + 1)).length := by simp [hpl]; omega
      rw [if_pos rfl, if_pos this, List.getElem?_append_right (by simp [hpl]; omega)]
      simp [hpl, Nat.min_eq_left hi]
    · rw [if_neg e, List.getElem?_take]
      by_cases hj : j < i
      · rw [if_pos (by omega), List.getElem?_append_left (by omega), List.getElem?_append_left (by simp [hpl]; omega), List.getElem?_take, if_pos hj]
      · rw [if_neg (by omega)]
        symm
        apply List.getElem?_eq_none
        simp [hpl]; omega
  rw [List.set_append_left _ _ (by simp; omega), e1, ← List.append_assoc, List.take_append_of_le_length (by simp [hpl]; omega)]
  rw [List.take_of_length_le (by simp [hpl]; omega)]
  unfold ptrs
  simp [List.map_take, List.map_drop]

set_option maxRecDepth 100000 in
/-- copy onto a row of pointers, whatever the parts are. -/
theorem wpList_copy_ptr {w : World} {ops : Array Oper} {rest : List Oper} {o : Oper} {a : Act} {Q : Exit → Act → World → Prop} (hgd : o.guard = none) (d s : Operand)
    (ho : o.op = .call { callee := .builtin .copy, args := #[d, s], argTypes := #[76, 76] })
    (g i n cap : Nat) (dp : Option Addr) (dCap sCap : Nat) (hd : a.eval d = .slice dp (n - i) dCap) (hs : a.eval s = .slice (some ⟨g, i, none⟩) (n + 1 - i) sCap) (hdp : i < n → dp = some ⟨g, i + 1, none⟩) (hin : i ≤ n)
    (cur : Array Value) (hg : w.heap[g]? = some (.cells cur 97 (0, 0))) (cs : List Value) (hcs : cs = (cur.toList.drop i).take (n - i)) (hcl : n + 1 ≤ cur.size) (hone : ∀ v ∈ cs, v.oneCell' = true)
    (h : ∀ w', OnlyB (some g) w w' → w'.heap[g]? = some (.cells (cur.toList.take (i + 1) ++ (cs ++ cur.toList.drop (i + 1 + cs.length))).toArray 97 (0, 0)) → wpList Try.prog ops Q rest (a.put o.dst (goInt cs.length)) w') : wpList Try.prog ops Q (o :: rest) a w := by
  have hlen : cs.length = n - i := by rw [hcs, List.length_take, List.length_drop, Array.length_toList]; omega
  have hmin : Nat.min (n + 1 - i) (n - i) = n - i := Nat.min_eq_right (by omega)
  by_cases h0 : n - i = 0
  · have hcs0 : cs = [] := List.length_eq_zero_iff.1 (by omega)
    refine wpList_copy_nothing hgd d s 76 76 ho 97 Try.underlying76 ptr_size dp _ (n - i) dCap (n + 1 - i) sCap hd hs (by rw [hmin, h0]) ?_
    have := h w ⟨rfl, rfl, rfl, rfl, fun _ _ => rfl⟩ (by rw [hcs0]; simpa using hg)
    rw [hcs0] at this
    exact this
  · rw [hdp (by omega)] at hd
    refine wpList_copy_own hgd d s 76 76 ho 97 Try.underlying76 ptr_size g (i + 1) (n - i) dCap ⟨g, i, none⟩ (n + 1 - i) sCap hd hs cur 97 hg cs (by rw [hmin]; exact hlen) (fun j v hj => ?_) (by omega) hone ?_
    · rw [add_plain, cell_of_row _ _ _ _ _ _ hg]
      rw [hcs, List.getElem?_take] at hj
      split at hj
      · rw [List.getElem?_drop] at hj
        rw [← Array.getElem?_toList]; exact hj
      · cases hj
    · exact h _ ⟨rfl, rfl, rfl, by simp [World.setRow], fun k hk => setRow_other w g k _ (fun e => hk (by rw [e]))⟩ (setRow_heap w g _ _ _ _ hg)
end Sl
end Go.Proofs.Ytlknhbcambdccaa
