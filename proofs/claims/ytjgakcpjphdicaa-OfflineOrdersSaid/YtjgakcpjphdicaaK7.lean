/- The search for the place of a new block. How rows of integers are appended. -/
import Derived.Test.YtjgakcpjphdicaaK6
import Derived.Test.YtjgakcpjphdicaaK1
import Derived.Laws.AppendOwn
import Derived.Laws.AppendOwnNone
import Derived.Deep.AppendLies
import Derived.Deep.RegionLaw
namespace Go.Proofs.Ytjgakcpjphdicaa
open Go.Shelf Go.RowKit Go.Lib Go.Sort
namespace Of

theorem count_split (A : List Int) (v : Int) : ∀ I : List Nat, Asc A I →
    (∀ k, k ∈ I.take (I.countP fun k => decide (addr A k < v)) → addr A k < v) ∧ (∀ k, k ∈ I.drop (I.countP fun k => decide (addr A k < v)) → v ≤ addr A k) := by
  intro I
  induction I with
  | nil => intro _; exact ⟨fun k hk => by simp at hk, fun k hk => by simp at hk⟩
  | cons x I ih =>
    intro h
    have hc := List.pairwise_cons.1 h
    obtain ⟨h1, h2⟩ := ih hc.2
    by_cases hx : addr A x < v
    · rw [List.countP_cons_of_pos (by simpa using hx), List.take_succ_cons, List.drop_succ_cons]
      refine ⟨fun k hk => ?_, h2⟩
      rcases List.mem_cons.1 hk with rfl | hk
      · exact hx
      · exact h1 k hk
    · have h0 : I.countP (fun k => decide (addr A k < v)) = 0 := List.countP_eq_zero.2 fun k hk => by have := hc.1 k hk; rw [decide_eq_true_eq]; omega
      rw [List.countP_cons_of_neg (by simpa using hx), h0]
      refine ⟨fun k hk => (by simp at hk), fun k hk => ?_⟩
      simp only [List.drop_zero] at hk
      rcases List.mem_cons.1 hk with rfl | hk
      · omega
      · have := hc.1 k hk; omega

theorem grow_below' {w : World} (q : Nat) (os : Array Obj) {n : Nat} (h : n ≤ w.heap.size) : Below n w (grow (w.drewN q) os) := by
  refine ⟨rfl, rfl, rfl, ?_, fun k hk => ?_⟩
  · show w.heap.size ≤ (w.heap ++ os).size
    simp
  · show (w.heap ++ os)[k]? = w.heap[k]?
    rw [Array.getElem?_append_left (by omega)]
theorem sw_below {α : Type} [Inhabited α] {enc : α → Value} {w W : World} {blk off : Nat} {d : Array α} (h : SW enc w blk off d W) (hH : Holds enc w blk off d) : Below w.heap.size w W := by
  obtain ⟨n, os, rfl⟩ := h
  have h0 := sortWorld_grown_c enc w blk off 0 n d #[] os
  rw [sortWorld_start enc w blk off d hH] at h0
  rw [show sortWorld enc w blk off n d os = sortWorld enc w blk off (0 + n) d (#[] ++ os) by simp, ← h0]
  exact grow_below' _ _ (Nat.le_refl _)
theorem sw_other {α : Type} [Inhabited α] (enc : α → Value) (w : World) (blk off m : Nat) (dk : Array α) (os : Array Obj) {k : Nat} (h : k ≠ blk) (hk : k < w.heap.size) : (sortWorld enc w blk off m dk os).heap[k]? = w.heap[k]? := by
  have h1 : (putRow enc (Sort.ahead w m) blk off dk).heap[k]? = w.heap[k]? := by
    unfold putRow mapBlock
    simp only [Array.getElem?_modify]
    rw [if_neg (fun e => h e.symm)]
    rfl
  unfold sortWorld
  rw [heap_grow_old _ _ (by unfold putRow mapBlock; simpa using hk)]
  exact h1
/-- Indices below a number. -/
def fins (m : Nat) (I : List Nat) : Array (Fin (m + 1)) := (I.map (Fin.ofNat (m + 1))).toArray
theorem fins_get {m : Nat} {I : List Nat} (h : ∀ k, k ∈ I → k < m + 1) {t : Nat} (ht : t < I.length) : ((fins m I)[t]!).val = I[t] := by
  unfold fins
  have hm := h I[t] (List.getElem_mem ht)
  simp [ht, Nat.mod_eq_of_lt hm]
theorem fins_count {m : Nat} {I : List Nat} (h : ∀ k, k ∈ I → k < m + 1) (p : Nat → Bool) : (fins m I).toList.countP (fun x => p x.val) = I.countP p := by
  unfold fins
  rw [List.toList_toArray, List.countP_map]
  apply List.countP_congr
  intro x hx
  simp [Nat.mod_eq_of_lt (h x hx)]

/-- What the search says of no index. -/
def BinNil (w : World) (e : Ending) (w' : World) : Prop := ∃ b, e = .returned (.tuple #[.int .i64 0, .bool b]) ∧ w = w'
set_option maxHeartbeats 1000000 in
theorem bin_nil (iA : Option Addr) (ic : Nat) (v : Int) (f : Value) (w : World) : Calls Try.prog 76 #[.slice iA 0 ic, .int .i64 v, f] w (BinNil w) := by
  go_enter Try.func76, Try.ntmps76
  go_wp2_with (fail)
  go_loop [9, 10] (fun i j => i = .int .i64 0 ∧ j = .int .i64 0) (fun _ _ => 0)
  case atStart => exact ⟨rfl, rfl⟩
  case round =>
    obtain ⟨rfl, rfl⟩ := hrel
    go_wp2
    go_ret2
    exact ⟨_, rfl, rfl⟩

set_option maxHeartbeats 1000000 in
theorem bin_ok (w : World) (bx bp lc ga ic : Nat) (lA iA : Option Addr) (L : List OB) (A : List Int) (I : List Nat) (v : Int)
    (h : LaidAt w bx lA lc L ga A iA ic I) (hp : w.cell? ⟨bp, 0, none⟩ = some (.pointer (some ⟨bx, 0, none⟩))) (hI : ∀ k, k ∈ I → k < A.length) (hs : Asc A I) (hn : I.length ≤ 1000) (hbi : ∀ g, iA.map (·.block) = some g → g ≠ bp ∧ g ≠ bx ∧ g ≠ ga) :
    Calls Try.prog 76 #[.slice iA I.length ic, .int .i64 v, .func (.func 77) #[] #[.pointer (some ⟨bp, 0, none⟩)]] w
      fun e w' => ∃ (j : Nat) (b : Bool), e = .returned (.tuple #[.int .i64 (j : Int), .bool b]) ∧ j ≤ I.length ∧ (∀ k, k ∈ I.take j → addr A k < v) ∧ (∀ k, k ∈ I.drop j → v ≤ addr A k) ∧ Below w.heap.size w w' := by
  by_cases h0 : I = []
  · subst h0
    refine (bin_nil iA ic v _ w).mono ?_
    rintro e w' ⟨b, rfl, rfl⟩
    exact ⟨0, b, rfl, Nat.le_refl _, fun k hk => (by simp at hk), fun k hk => (by simp at hk), Below.refl _ _⟩
  · have hpos : 0 < I.length := List.length_pos_iff.2 h0
    have hown := h.in_
    rcases hown.2 with ⟨hv, h1⟩ | ⟨g, cp, cur, hv, hB, hg, h1, h2, _⟩
    · omega
    · injection hv with e1 e2 e3
      subst e1
      have hcd : ∀ (j : Nat) (x : Nat), I[j]? = some x → w.cell? ⟨g, 0 + j, none⟩ = some (.int .i64 (x : Int)) := fun j x hx => by
        rw [Nat.zero_add]; exact row_at (h.in_) (ci_get (zs_get hx))
      obtain ⟨m, hm⟩ : ∃ m, A.length = m + 1 := ⟨A.length - 1, by have := hI I[0] (List.getElem_mem hpos); omega⟩
      have hI' : ∀ k, k ∈ I → k < m + 1 := fun k hk => by rw [← hm]; exact hI k hk
      have hsz : (fins m I).size = I.length := by simp [fins]
      have hH : Holds (fun x : Fin (m + 1) => Value.int .i64 (x.val : Int)) w g 0 (fins m I) := by
        intro j hj
        rw [hsz] at hj
        refine ⟨?_, by simp [World.frozen?, hg]⟩
        rw [hcd j _ (List.getElem?_eq_getElem hj)]
        show _ = some (Value.int .i64 (((fins m I)[j]!).val : Int))
        rw [fins_get hI' hj]
      have eg : ∀ args w, (callFunc 77 args).run Try.prog w = .ok (.enter 77 args) w := enters_of Try.func77 (by kernel_rfl) rfl
      obtain ⟨n1, n2, n3⟩ := hbi g rfl
      have hcm : CmpLaysT Try.prog 77 #[.pointer (some ⟨bp, 0, none⟩)] (fun x : Fin (m + 1) => Value.int .i64 (x.val : Int)) (.int .i64 v) (fun x => cmpV (addr A x.val) v) g 0 (fins m I).size w := by
        intro q os dk hdk x
        have k1 := sw_other (fun x : Fin (m + 1) => Value.int .i64 (x.val : Int)) w g 0 q dk os (k := bp) (Ne.symm n1) (World.block_lt_of_cell? w (a := ⟨bp, 0, none⟩) hp)
        have k2 := sw_other (fun x : Fin (m + 1) => Value.int .i64 (x.val : Int)) w g 0 q dk os (k := bx) (Ne.symm n2) (lt_of_heap h.box)
        have k3 := sw_other (fun x : Fin (m + 1) => Value.int .i64 (x.val : Int)) w g 0 q dk os (k := ga) (Ne.symm n3) h.at_.lt
        refine (addc_ok _ bx bp lc ga ic lA (some ⟨g, 0, none⟩) L A I.length x.val v ((World.cell?_of_block (a := ⟨bp, 0, none⟩) k1).trans hp) ((World.cell?_of_block (a := ⟨bx, 1, none⟩) k2).trans (three_at h.box).2.1) (h.at_.keep k3) (by rw [hm]; exact x.isLt)).mono ?_
        rintro e w' ⟨rfl, rfl⟩
        exact ⟨rfl, 0, #[], by simp [grow]; rfl⟩
      have hlt : ∀ x : Fin (m + 1), cmpV (addr A x.val) v < 0 ↔ addr A x.val < v := fun x => by unfold cmpV; split <;> (try split) <;> omega
      have hcount : (fins m I).toList.countP (fun x => decide (cmpV (addr A x.val) v < 0)) = I.countP fun k => decide (addr A k < v) := by
        rw [← fins_count hI' fun k => decide (addr A k < v)]
        congr 1
        funext x
        rw [decide_eq_decide]
        exact hlt x
      have hbin := Any.slices_BinarySearchFunc Try.binS (fun x : Fin (m + 1) => Value.int .i64 (x.val : Int)) (fun _ => rfl) (.int .i64 v) (fun x => cmpV (addr A x.val) v) 77 #[.pointer (some ⟨bp, 0, none⟩)] g 0 ic (fins m I) w eg hcm hH (lt_of_heap hg) (by omega) (by
        intro a b hab hb hlb
        rw [hsz] at hb
        rw [hlt, fins_get hI' hb] at hlb
        rw [hlt, fins_get hI' (by omega)]
        rcases Nat.eq_or_lt_of_le hab with rfl | hlt'
        · exact hlb
        · have := List.pairwise_iff_getElem.1 hs a b (by omega) hb hlt'
          omega)
      rw [hcount, hsz] at hbin
      refine hbin.mono ?_
      rintro e' w' ⟨rfl, hsw⟩
      obtain ⟨s1, s2⟩ := count_split A v I hs
      exact ⟨_, _, rfl, List.countP_le_length, s1, s2, sw_below hsw hH⟩
end Of
end Go.Proofs.Ytjgakcpjphdicaa
namespace Go.Proofs.Ytjgakcpjphdicaa
open Go.RowKit
namespace Of

theorem grown_refl (w : World) (row : Option Nat) : w.grownBy w row := ⟨rfl, rfl, rfl, Nat.le_refl _, fun _ _ _ => rfl⟩
theorem below_grown {w w' : World} {v : Value} {n : Nat} (h : w.grownBy w' v.ownBlock) (hn : n ≤ w.heap.size) (hv : ∀ g, v.ownBlock = some g → n ≤ g) : Below n w w' :=
  ⟨h.os, h.tape, h.output, h.size, fun k hk => h.block k (by omega) fun e => by have := hv k e.symm; omega⟩

variable {ts te : TypeId} (hts : Try.prog.underlying ts = some (.slice te)) (hte : (Try.prog.info? te).map (fun i => (i.zero, i.size, i.bytes)) = some (some (.int .i64 0), 1, 8))
include hts hte

/-- Appending to a row of one's own. -/
theorem run_append_i (w : World) (ty : TypeId) (base : Nat) (v : Value) (X : List Int) (hown : w.ownsRow base te 1 v X.length (ci X))
    (A : Option Addr) (c : Nat) (M : List Int) (hM : IAt w A c M) (hn : A = none → c = 0) (hlen : X.length + M.length ≤ 1000000) (hbase : base ≤ w.heap.size) :
    ∃ A' c' w', (Builtin.append_ #[ts, ts] ty #[v, .slice A M.length c]).run Try.prog w = .ok (.slice A' (X ++ M).length c') w' ∧ OwnI w' base te A' c' (X ++ M) ∧ w.grownBy w' v.ownBlock := by
  obtain ⟨i0, hi0, hz0, hz2, hz3⟩ := info_parts hte
  cases A with
  | none =>
    obtain rfl := hn rfl
    have hM0 : M = [] := List.length_eq_zero_iff.1 (by have := hM.1; omega)
    subst hM0
    have hrun := run_append_owned_none (P := Try.prog) (w := w) base ts ty te i0 1 hts hi0 v X.length (ci X) hown
    obtain ⟨A', c', rfl⟩ := row_own hown
    rw [List.append_nil]
    exact ⟨A', c', w, hrun, hown, grown_refl _ _⟩
  | some ad =>
    obtain ⟨v', w', hr, h2, h3, _⟩ := run_append_own (P := Try.prog) w base ts ty te i0 (.int .i64 0) 1 8 hts hi0 hz0 hz2 hz3 rfl (by omega) v X.length (ci X) hown ad M.length c (ci M) (by rw [ci_len]; omega) (i_addr hM rfl) (ci_one M) (by unfold maxLen; omega) (by omega) hbase
    rw [← List.length_append, ← ci_add] at h2
    obtain ⟨A', c', rfl⟩ := row_own h2
    exact ⟨A', c', w', hr, h2, h3⟩

/-- Appending to a slice that has no room. -/
theorem run_append_full (w : World) (ty : TypeId) (A : Option Addr) (X : List Int) (hX : IAt w A X.length X) (hn : A = none → X = [])
    (ad : Addr) (c : Nat) (M : List Int) (hM : IAt w (some ad) c M) (hp : 0 < M.length) (hlen : X.length + M.length ≤ 1000000) :
    ∃ A' c' w', (Builtin.append_ #[ts, ts] ty #[.slice A X.length X.length, .slice (some ad) M.length c]).run Try.prog w = .ok (.slice A' (X ++ M).length c') w' ∧ OwnI w' w.heap.size te A' c' (X ++ M) ∧ Below w.heap.size w w' := by
  obtain ⟨i0, hi0, hz0, hz2, hz3⟩ := info_parts hte
  cases A with
  | none =>
    obtain rfl := hn rfl
    obtain ⟨A', c', w', h1, h2, h3⟩ := run_append_i hts hte w ty w.heap.size (.slice none 0 0) [] (own_nil w _ te) (some ad) c M hM (fun e => by cases e) (by simpa using hlen) (Nat.le_refl _)
    exact ⟨A', c', w', h1, h2, ⟨h3.os, h3.tape, h3.output, h3.size, fun k hk => h3.block k hk (fun e => by cases e)⟩⟩
  | some b =>
    have hr := run_append_grow (P := Try.prog) w ts ty te i0 (.int .i64 0) hts hi0 hz0 b X.length X.length (ci X) (by rw [ci_len, hz2]; omega) (i_addr hX rfl) ad M.length c (ci M) (by rw [ci_len, hz2]; omega) (i_addr hM rfl) (by omega) (by omega) (growslice_fits (by omega) (by rw [hz3]; omega))
    have hge := grownCap_ge w (X.length + M.length) X.length te
    have hcm : grownCap w (X.length + M.length) X.length te ≤ maxLen := grownCap_le_maxLen w (X.length + M.length) X.length te (by unfold maxLen; omega)
    generalize grownCap w (X.length + M.length) X.length te = cap at *
    rw [← List.length_append] at hr hge
    refine ⟨_, _, _, hr, ⟨by rw [ci_len]; omega, .inr ⟨w.heap.size, _, _, rfl, Nat.le_refl _, heap_alloc_new w.drew _, hge, hcm, ?_, ?_⟩⟩, (below_drew (Below.refl _ w)).alloc (Nat.le_refl _) _⟩
    · simp only [Array.size_append, List.size_toArray, size_zeroCells, ci_len, List.length_append] at hge ⊢
      show X.length + M.length + (cap - (X.length + M.length)) * (Value.int .i64 0).cells.size = cap * 1
      have e : (Value.int .i64 0).cells.size = 1 := rfl
      rw [e]; omega
    · simp only [Array.toList_append, List.append_assoc]
      rw [← List.append_assoc, ci_add, Nat.mul_one]
      exact List.take_left' (by rw [List.length_append, ci_len, ci_len, List.length_append])

theorem wp_append_run {o : Oper} {a : Act} {w : World} {K : Act → World → Prop} {Q : Exit → Act → World → Prop} (s x : Operand) (ho : o.op = .call { callee := .builtin .append, args := #[s, x], argTypes := #[ts, ts] })
    (v u r : Value) (hs : a.eval s = v) (hx : a.eval x = u) (w' : World) (hrun : (Builtin.append_ #[ts, ts] o.type #[v, u]).run Try.prog w = .ok r w') (h : K (a.put o.dst r) w') : o.wp Try.prog a w K Q := by
  have _ := hts
  have _ := hte
  unfold Oper.wp
  simp only [execOp, ho, resolve, invoke, builtin, Sem.run_bind, Sem.run_pure, Result.andThen_ok, List.map_toArray, List.map_cons, List.map_nil, hs, hx, hrun]
  exact h
omit hts hte in
theorem step_of {w : World} {ops : Array Oper} {o : Oper} {a : Act} {K : Act → World → Prop} {Q : Exit → Act → World → Prop} {E : Prop} (hgd : o.guard = none) (h : Oper.wp Try.prog o a w K Q) :
    if Region.wanted o (yielded ops a.tmps) = true then Oper.wp Try.prog o a w K Q else E := by
  have hw : Region.wanted o (yielded ops a.tmps) = true := by simp [Region.wanted, hgd]
  rw [if_pos hw]; exact h
theorem step_append_i {w : World} {ops : Array Oper} {o : Oper} {a : Act} {K : Act → World → Prop} {Q : Exit → Act → World → Prop} {E : Prop} (hgd : o.guard = none) (s x : Operand)
    (ho : o.op = .call { callee := .builtin .append, args := #[s, x], argTypes := #[ts, ts] })
    (base : Nat) (v : Value) (X : List Int) (hs : a.eval s = v) (hown : w.ownsRow base te 1 v X.length (ci X))
    (A : Option Addr) (c : Nat) (M : List Int) (hx : a.eval x = .slice A M.length c) (hM : IAt w A c M) (hn : A = none → c = 0) (hlen : X.length + M.length ≤ 1000000) (hbase : base ≤ w.heap.size)
    (h : ∀ A' c' w', OwnI w' base te A' c' (X ++ M) → w.grownBy w' v.ownBlock → K (a.put o.dst (.slice A' (X ++ M).length c')) w') :
    if Region.wanted o (yielded ops a.tmps) = true then Oper.wp Try.prog o a w K Q else E := by
  obtain ⟨A', c', w', hrun, h1, h2⟩ := run_append_i hts hte w o.type base v X hown A c M hM hn hlen hbase
  exact step_of hgd (wp_append_run hts hte s x ho v _ _ hs hx w' hrun (h A' c' w' h1 h2))
theorem step_append_full {w : World} {ops : Array Oper} {o : Oper} {a : Act} {K : Act → World → Prop} {Q : Exit → Act → World → Prop} {E : Prop} (hgd : o.guard = none) (s x : Operand)
    (ho : o.op = .call { callee := .builtin .append, args := #[s, x], argTypes := #[ts, ts] })
    (A : Option Addr) (X : List Int) (hs : a.eval s = .slice A X.length X.length) (hX : IAt w A X.length X) (hn : A = none → X = [])
    (ad : Addr) (c : Nat) (M : List Int) (hx : a.eval x = .slice (some ad) M.length c) (hM : IAt w (some ad) c M) (hp : 0 < M.length) (hlen : X.length + M.length ≤ 1000000)
    (h : ∀ A' c' w', OwnI w' w.heap.size te A' c' (X ++ M) → Below w.heap.size w w' → K (a.put o.dst (.slice A' (X ++ M).length c')) w') :
    if Region.wanted o (yielded ops a.tmps) = true then Oper.wp Try.prog o a w K Q else E := by
  obtain ⟨A', c', w', hrun, h1, h2⟩ := run_append_full hts hte w o.type A X hX hn ad c M hM hp hlen
  exact step_of hgd (wp_append_run hts hte s x ho _ _ _ hs hx w' hrun (h A' c' w' h1 h2))
theorem wpList_append_i {w : World} {ops : Array Oper} {rest : List Oper} {o : Oper} {a : Act} {Q : Exit → Act → World → Prop} (hgd : o.guard = none) (s x : Operand)
    (ho : o.op = .call { callee := .builtin .append, args := #[s, x], argTypes := #[ts, ts] })
    (base : Nat) (v : Value) (X : List Int) (hs : a.eval s = v) (hown : w.ownsRow base te 1 v X.length (ci X))
    (A : Option Addr) (c : Nat) (M : List Int) (hx : a.eval x = .slice A M.length c) (hM : IAt w A c M) (hn : A = none → c = 0) (hlen : X.length + M.length ≤ 1000000) (hbase : base ≤ w.heap.size)
    (h : ∀ A' c' w', OwnI w' base te A' c' (X ++ M) → w.grownBy w' v.ownBlock → wpList Try.prog ops Q rest (a.put o.dst (.slice A' (X ++ M).length c')) w') : wpList Try.prog ops Q (o :: rest) a w := by
  obtain ⟨A', c', w', hrun, h1, h2⟩ := run_append_i hts hte w o.type base v X hown A c M hM hn hlen hbase
  exact wpList_plain hgd fun _ hK => wp_append_run hts hte s x ho v _ _ hs hx w' hrun (hK _ _ (h A' c' w' h1 h2))
end Of
end Go.Proofs.Ytjgakcpjphdicaa
