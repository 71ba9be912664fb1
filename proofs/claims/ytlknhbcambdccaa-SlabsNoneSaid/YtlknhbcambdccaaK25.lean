/- Free of an allocated object where no slab is given back. The allocated objects of a cache: the iterator. DERIVED: THE SHELF's CONTRACTS AT THIS DUMP, IN PLAIN WORDS (tools/lay-plain.mjs out of 'YtlknhbcambdccaaShelf0.lean', which tools/lay-shelf.mjs wrote): THE SAME DECLARATIONS UNDER THE SAME NAMES: 'import', 'namespace', 'open', 'def', 'theorem' AND NOTHING ELSE: no command of the shelf's: FOR A HAND-IN. Each laying: the table of numbers ('.._ren') and one theorem, a field a fact of the dump's own or the kernel's comparison; each contract: ONE APPLICATION. -/
import Derived.Test.YtlknhbcambdccaaK24
import Derived.Deep.QuietTactic
import Derived.BigQuiet
import Derived.Shelf.SlLaysE
import Derived.Shelf.SlLaysE0
import Derived.Shelf.SlicesE.Delete
import Derived.Shelf.SlicesE.Clone
import Derived.Ground.SlgnProg
import Derived.Test.YtlknhbcambdccaaProg
namespace Go.Proofs.Ytlknhbcambdccaa
open Go.RowKit
namespace Sl
open Bu

set_option maxRecDepth 100000 in
set_option maxHeartbeats 8000000 in
theorem freeS_many (w : World) (own : Own?) (c b : Nat) (C : Ca) (N : Nat) (L : List Blk) (H : Held w own c b C N L) (at_ : Int) (ha1 : -9223372036854775808 ≤ at_) (ha2 : at_ < 9223372036854775808) (j d : Nat) (hhit : holdS C.order 0 C.sl at_ = some (j, d)) (hmod : d % C.size = 0)
    (hv0 : ∃ x, C.sl[j]? = some x ∧ x.us[d / C.size]? = some true) (hmany : ∀ x, C.sl[j]? = some x → x.many ≠ 1) :
    Calls Try.prog 11 #[.pointer (some ⟨c, 0, none⟩), .int .i64 at_] w fun e w' => FreeS own c b C N L at_ w e w' := by
  obtain ⟨x, hx, hd, -, -, -, hul, -⟩ := hit_data H hhit
  obtain ⟨x', hx', hv⟩ := hv0
  obtain rfl : x = x' := by rw [hx] at hx'; injection hx'
  clear hx'
  obtain ⟨W1, hW1⟩ : ∃ W1, W1 = w.alloc (.cells #[.pointer (some ⟨c, 0, none⟩)] 22) := ⟨_, rfl⟩
  have hb1 : Below w.heap.size w W1 := by rw [hW1]; exact below_box w _
  have hB1 : W1.heap[w.heap.size]? = some (.cells #[.pointer (some ⟨c, 0, none⟩)] 22 (0, 0)) := by rw [hW1, heapAlloc, if_pos rfl]
  have H1 := H.below hb1
  obtain ⟨A, cap, R, hC⟩ := H1.at_
  have hpg : ∀ x ∈ C.sl, x.pg ≤ 1024 := fun x hx => by
    have h2 : x.pg + 2 ^ C.order ≤ 1024 := (st_le H.ok.st _ (H.ok.giv x hx)).2
    have := pow_pos2 C.order
    omega
  have hh := holder_ok W1 own c b C _ A cap R hC hpg H.ok.od H.ok.sz.2.1 at_ ha1 ha2
  unfold HoldR at hh
  rw [hhit] at hh
  simp only at hh
  obtain ⟨p, hp⟩ : ∃ p, R[j]? = some p := ⟨_, List.getElem?_eq_getElem (by have := (List.getElem?_eq_some_iff.1 hx).1; have := hC.len; omega)⟩
  have hh2 : Calls Try.prog 35 #[.pointer (some ⟨c, 0, none⟩), .int .i64 at_] W1 fun e w' => e = .returned (.tuple #[.pointer (some ⟨p, 0, none⟩), .int .i64 (d : Int)]) ∧ ∃ n, w' = W1.drewN n := by
    refine hh.mono ?_
    rintro e w' ⟨⟨p', hp', he⟩, hw⟩
    rw [hp] at hp'
    injection hp' with hp'
    subst hp'
    exact ⟨he, hw⟩
  obtain ⟨c0, _, _, _, _, _, _, _⟩ := six_cells hC.cell
  have HD := Lib.hid (dead_ok W1 c (some ⟨b, 0, none⟩) c0)
  obtain ⟨u, uc, hs⟩ := hC.slab j p x hp hx
  have HH := Lib.hid hh2
  have hsz : (C.size : Int) ≠ 0 := by have := H.ok.sz.1; omega
  have hq : ∀ w : World, (binOp .eql 97 (.pointer (some ⟨p, 0, none⟩)) (.pointer none)).run Try.prog w = .ok (.bool false) w := fun w => run_eql_ptr_nil Try.prog w 97 _ (some ⟨p, 0, none⟩) Try.underlying97
  have e0 : (0 : Int) ≤ (d : Int) := by omega
  have g1 := quo_w64 d C.size hd H.ok.sz.1
  have g2 := rem_w64 d C.size hd H.ok.sz.1
  rw [hmod] at g2
  have e1 : (0 : Int) ≤ (C.size : Int) := by omega
  have g3 : (d : Int) / (C.size : Int) = ((d / C.size : Nat) : Int) := rfl
  have g4 : (d : Int) % (C.size : Int) = 0 := by have : (d : Int) % (C.size : Int) = ((d % C.size : Nat) : Int) := rfl; rw [this, hmod]; rfl
  obtain ⟨q, hqe⟩ : ∃ q, q = d / C.size := ⟨_, rfl⟩
  rw [← hqe] at g1 g3 hv
  have g5 : wrap64 (q : Int) = (q : Int) := by
    have h1 : q ≤ d := by rw [hqe]; exact Nat.div_le_self _ _
    rw [← w64]; exact IntWalk.i64_in _ (by omega)
  have hql : q < x.us.length := (List.getElem?_eq_some_iff.1 hv).1
  have e2 : (0 : Int) ≤ (q : Int) := by omega
  have e3 : (q : Int) < (x.us.length : Int) := by omega
  have e4 : ¬ (x.us.length : Int) ≤ (q : Int) := by omega
  obtain ⟨m, hm⟩ : ∃ m, m + 1 = x.many := ⟨x.many - 1, by have := (many_set hv).2; omega⟩
  have hmle := many_le x
  obtain ⟨hpc, huc, hup, hpb, hub, hcb⟩ := slab_apart hC hs
  obtain ⟨hcap1, hcap2, _⟩ := row_caps hs.row
  have hcap3 : uc ≤ 9223372036854775807 := by unfold maxLen at hcap2; exact hcap2
  have hsz1 : w.heap.size < W1.heap.size := lt_of_heap hB1
  have hwn : own w.heap.size = none := by
    refine Classical.byContradiction fun hn => ?_
    have := H.fresh _ hn
    omega
  have hpw : p ≠ w.heap.size := fun e => by have := hs.ownP; rw [e, hwn] at this; cases this
  have huw : u ≠ w.heap.size := fun e => by have := hs.ownU; rw [e, hwn] at this; cases this
  have hcw : c ≠ w.heap.size := fun e => by have := hC.ownC; rw [e, hwn] at this; cases this
  have hdec : IntKind.i64.wrap (((m + 1 : Nat) : Int) - 1) = (m : Int) := by rw [IntWalk.i64_in _ (by omega)]; omega
  have he1024 : emptyS C.sl ≤ 64 := Nat.le_trans H.ok.emp H.ok.kp
  obtain ⟨e, hee⟩ : ∃ e, e = emptyS C.sl := ⟨_, rfl⟩
  have hinc : IntKind.i64.wrap ((e : Int) + 1) = ((e + 1 : Nat) : Int) := by rw [IntWalk.i64_in _ (by omega)]; rfl
  rw [← hee] at hC
  have hmb : m ≤ 128 := by omega
  have heb : e ≤ 64 := by omega
  have hm0 : 0 < m := by have := hmany x hx; omega
  have hm0i : (0 : Int) < (m : Int) := by omega
  have HX := Lib.hid (And.intro H (And.intro hC (And.intro hs (And.intro hp (And.intro hx (And.intro hv (And.intro hm (And.intro hee (And.intro hqe (And.intro hmod (And.intro hhit (And.intro hb1 (And.intro hB1 (And.intro hul (And.intro hwn (And.intro hsz1 H1))))))))))))))))
  have HW := Lib.hid hW1
  obtain ⟨bx0, _⟩ := Bu.one_cell hB1
  rw [← hm] at hs
  clear hh hh2 hpg hC H c0 hb1 hB1 hW1 hp hx hhit hqe hmod hm hmle hee H1 hwn hcap2 hcap1 hul hd he1024 hv
  go_enter Try.func11, Try.ntmps11
  go_wp2_with (go_at_call 34; fail)
  rw [← HW.out]
  refine HD.out.mono ?_
  rintro e w' ⟨rfl, rfl⟩
  go_wp2_with (go_at_call 35; fail)
  refine HH.out.mono ?_
  rintro _ W2 ⟨rfl, dd, hW2⟩
  have hh2 : ∀ k : Nat, W2.heap[k]? = W1.heap[k]? := fun k => by rw [hW2]; rfl
  obtain ⟨p0, p1, p2, pf⟩ := three_cells ((hh2 p).trans hs.cell)
  obtain ⟨c0, c1, c2, c3, c4, c5, _, f5⟩ := six_cells ((hh2 c).trans HX.out.2.1.cell)
  obtain ⟨bx, _⟩ := Bu.one_cell ((hh2 _).trans HX.out.2.2.2.2.2.2.2.2.2.2.2.2.1)
  have hrU : W2.ownsRow 0 4 1 (.slice (some ⟨u, 0, none⟩) x.us.length uc) x.us.length (bcells x.us) := row_same hs.row fun g _ => hh2 g
  have u1 := row_cell hrU (i := q) (v := .bool true) (by rw [bcells_get, HX.out.2.2.2.2.2.1]; rfl)
  have u2 := row_frozen hrU q
  have H2 := Lib.hid (And.intro hW2 hh2)
  clear hW2 hh2 hrU hs
  go_wp2
  go_ret
  obtain ⟨H, hC, hs, hp, hx, hv, hm, hee, hqe, hmod, hhit, hb1, hB1, hul, hwn, hsz1, H1⟩ := HX.out
  obtain ⟨hW2, hh2⟩ := H2.out
  subst hqe
  subst hW2
  have hem := empty_free hx hv hm
  rw [if_neg (by omega : ¬ m = 0), Nat.add_zero, ← hee] at hem
  have hC' := cache_free (W := (((W1.drewN dd).setCell ⟨u, d / C.size, none⟩ (.bool false)).setCell ⟨p, 2, none⟩ (.int .i64 (m : Int)))) hC hp hx hs hv hm (fun _ => rfl)
  obtain ⟨hK, hfar⟩ := free_worlds (W := (((W1.drewN dd).setCell ⟨u, d / C.size, none⟩ (.bool false)).setCell ⟨p, 2, none⟩ (.int .i64 (m : Int)))) hb1 (show own p ≠ none by rw [hs.ownP]; simp) (show own u ≠ none by rw [hs.ownU]; simp) (show own c ≠ none by rw [hC.ownC]; simp) rfl rfl rfl (by rw [setCell_size, setCell_size]; rfl) (fun k h1 h2 _ => (setCell_far _ _ _ _ h1).trans (setCell_far _ _ _ _ h2))
  exact free_done H hhit hx hmod hv (by rw [hem, hee]; exact H.ok.emp) (by rw [hem]; exact hC') (hfar b H.bu.lt hpb.symm hub.symm hcb.symm) hK

set_option maxRecDepth 100000 in
set_option maxHeartbeats 8000000 in
theorem freeS_one (w : World) (own : Own?) (c b : Nat) (C : Ca) (N : Nat) (L : List Blk) (H : Held w own c b C N L) (at_ : Int) (ha1 : -9223372036854775808 ≤ at_) (ha2 : at_ < 9223372036854775808) (j d : Nat) (hhit : holdS C.order 0 C.sl at_ = some (j, d)) (hmod : d % C.size = 0)
    (hv0 : ∃ x, C.sl[j]? = some x ∧ x.us[d / C.size]? = some true) (hone : ∀ x, C.sl[j]? = some x → x.many = 1) (hkeep : emptyS C.sl + 1 ≤ C.keep) :
    Calls Try.prog 11 #[.pointer (some ⟨c, 0, none⟩), .int .i64 at_] w fun e w' => FreeS own c b C N L at_ w e w' := by
  obtain ⟨x, hx, hd, -, -, -, hul, -⟩ := hit_data H hhit
  obtain ⟨x', hx', hv⟩ := hv0
  obtain rfl : x = x' := by rw [hx] at hx'; injection hx'
  clear hx'
  obtain ⟨W1, hW1⟩ : ∃ W1, W1 = w.alloc (.cells #[.pointer (some ⟨c, 0, none⟩)] 22) := ⟨_, rfl⟩
  have hb1 : Below w.heap.size w W1 := by rw [hW1]; exact below_box w _
  have hB1 : W1.heap[w.heap.size]? = some (.cells #[.pointer (some ⟨c, 0, none⟩)] 22 (0, 0)) := by rw [hW1, heapAlloc, if_pos rfl]
  have H1 := H.below hb1
  obtain ⟨A, cap, R, hC⟩ := H1.at_
  have hpg : ∀ x ∈ C.sl, x.pg ≤ 1024 := fun x hx => by
    have h2 : x.pg + 2 ^ C.order ≤ 1024 := (st_le H.ok.st _ (H.ok.giv x hx)).2
    have := pow_pos2 C.order
    omega
  have hh := holder_ok W1 own c b C _ A cap R hC hpg H.ok.od H.ok.sz.2.1 at_ ha1 ha2
  unfold HoldR at hh
  rw [hhit] at hh
  simp only at hh
  obtain ⟨p, hp⟩ : ∃ p, R[j]? = some p := ⟨_, List.getElem?_eq_getElem (by have := (List.getElem?_eq_some_iff.1 hx).1; have := hC.len; omega)⟩
  have hh2 : Calls Try.prog 35 #[.pointer (some ⟨c, 0, none⟩), .int .i64 at_] W1 fun e w' => e = .returned (.tuple #[.pointer (some ⟨p, 0, none⟩), .int .i64 (d : Int)]) ∧ ∃ n, w' = W1.drewN n := by
    refine hh.mono ?_
    rintro e w' ⟨⟨p', hp', he⟩, hw⟩
    rw [hp] at hp'
    injection hp' with hp'
    subst hp'
    exact ⟨he, hw⟩
  obtain ⟨c0, _, _, _, _, _, _, _⟩ := six_cells hC.cell
  have HD := Lib.hid (dead_ok W1 c (some ⟨b, 0, none⟩) c0)
  obtain ⟨u, uc, hs⟩ := hC.slab j p x hp hx
  have HH := Lib.hid hh2
  have hsz : (C.size : Int) ≠ 0 := by have := H.ok.sz.1; omega
  have hq : ∀ w : World, (binOp .eql 97 (.pointer (some ⟨p, 0, none⟩)) (.pointer none)).run Try.prog w = .ok (.bool false) w := fun w => run_eql_ptr_nil Try.prog w 97 _ (some ⟨p, 0, none⟩) Try.underlying97
  have e0 : (0 : Int) ≤ (d : Int) := by omega
  have g1 := quo_w64 d C.size hd H.ok.sz.1
  have g2 := rem_w64 d C.size hd H.ok.sz.1
  rw [hmod] at g2
  have e1 : (0 : Int) ≤ (C.size : Int) := by omega
  have g3 : (d : Int) / (C.size : Int) = ((d / C.size : Nat) : Int) := rfl
  have g4 : (d : Int) % (C.size : Int) = 0 := by have : (d : Int) % (C.size : Int) = ((d % C.size : Nat) : Int) := rfl; rw [this, hmod]; rfl
  obtain ⟨q, hqe⟩ : ∃ q, q = d / C.size := ⟨_, rfl⟩
  rw [← hqe] at g1 g3 hv
  have g5 : wrap64 (q : Int) = (q : Int) := by
    have h1 : q ≤ d := by rw [hqe]; exact Nat.div_le_self _ _
    rw [← w64]; exact IntWalk.i64_in _ (by omega)
  have hql : q < x.us.length := (List.getElem?_eq_some_iff.1 hv).1
  have e2 : (0 : Int) ≤ (q : Int) := by omega
  have e3 : (q : Int) < (x.us.length : Int) := by omega
  have e4 : ¬ (x.us.length : Int) ≤ (q : Int) := by omega
  obtain ⟨m, hm⟩ : ∃ m, m + 1 = x.many := ⟨x.many - 1, by have := (many_set hv).2; omega⟩
  have hmle := many_le x
  obtain ⟨hpc, huc, hup, hpb, hub, hcb⟩ := slab_apart hC hs
  obtain ⟨hcap1, hcap2, _⟩ := row_caps hs.row
  have hcap3 : uc ≤ 9223372036854775807 := by unfold maxLen at hcap2; exact hcap2
  have hsz1 : w.heap.size < W1.heap.size := lt_of_heap hB1
  have hwn : own w.heap.size = none := by
    refine Classical.byContradiction fun hn => ?_
    have := H.fresh _ hn
    omega
  have hpw : p ≠ w.heap.size := fun e => by have := hs.ownP; rw [e, hwn] at this; cases this
  have huw : u ≠ w.heap.size := fun e => by have := hs.ownU; rw [e, hwn] at this; cases this
  have hcw : c ≠ w.heap.size := fun e => by have := hC.ownC; rw [e, hwn] at this; cases this
  have hdec : IntKind.i64.wrap (((m + 1 : Nat) : Int) - 1) = (m : Int) := by rw [IntWalk.i64_in _ (by omega)]; omega
  have he1024 : emptyS C.sl ≤ 64 := Nat.le_trans H.ok.emp H.ok.kp
  obtain ⟨e, hee⟩ : ∃ e, e = emptyS C.sl := ⟨_, rfl⟩
  have hinc : IntKind.i64.wrap ((e : Int) + 1) = ((e + 1 : Nat) : Int) := by rw [IntWalk.i64_in _ (by omega)]; rfl
  rw [← hee] at hC
  have hmb : m ≤ 128 := by omega
  have heb : e ≤ 64 := by omega
  have hm1 : m = 0 := by have := hone x hx; omega
  have hmz : ¬ 0 < m := by omega
  have hmzi : ¬ (0 : Int) < (m : Int) := by omega
  have HM := Lib.hid hm1
  have hk0 : e + 1 ≤ C.keep := by omega
  have hki : (e : Int) + 1 ≤ (C.keep : Int) := by omega
  have HX := Lib.hid (And.intro H (And.intro hC (And.intro hs (And.intro hp (And.intro hx (And.intro hv (And.intro hm (And.intro hee (And.intro hqe (And.intro hmod (And.intro hhit (And.intro hb1 (And.intro hB1 (And.intro hul (And.intro hwn (And.intro hsz1 H1))))))))))))))))
  have HW := Lib.hid hW1
  obtain ⟨bx0, _⟩ := Bu.one_cell hB1
  rw [← hm] at hs
  clear hkeep hone hm1 hh hh2 hpg hC H c0 hb1 hB1 hW1 hp hx hhit hqe hmod hm hmle hee H1 hwn hcap2 hcap1 hul hd he1024 hv
  go_enter Try.func11, Try.ntmps11
  go_wp2_with (go_at_call 34; fail)
  rw [← HW.out]
  refine HD.out.mono ?_
  rintro e w' ⟨rfl, rfl⟩
  go_wp2_with (go_at_call 35; fail)
  refine HH.out.mono ?_
  rintro _ W2 ⟨rfl, dd, hW2⟩
  have hh2 : ∀ k : Nat, W2.heap[k]? = W1.heap[k]? := fun k => by rw [hW2]; rfl
  obtain ⟨p0, p1, p2, pf⟩ := three_cells ((hh2 p).trans hs.cell)
  obtain ⟨c0, c1, c2, c3, c4, c5, _, f5⟩ := six_cells ((hh2 c).trans HX.out.2.1.cell)
  obtain ⟨bx, _⟩ := Bu.one_cell ((hh2 _).trans HX.out.2.2.2.2.2.2.2.2.2.2.2.2.1)
  have hrU : W2.ownsRow 0 4 1 (.slice (some ⟨u, 0, none⟩) x.us.length uc) x.us.length (bcells x.us) := row_same hs.row fun g _ => hh2 g
  have u1 := row_cell hrU (i := q) (v := .bool true) (by rw [bcells_get, HX.out.2.2.2.2.2.1]; rfl)
  have u2 := row_frozen hrU q
  have H2 := Lib.hid (And.intro hW2 hh2)
  clear hW2 hh2 hrU hs
  go_wp2_with (fail)
  go_quiet (fail)
  go_wp2
  go_ret
  obtain ⟨H, hC, hs, hp, hx, hv, hm, hee, hqe, hmod, hhit, hb1, hB1, hul, hwn, hsz1, H1⟩ := HX.out
  obtain ⟨hW2, hh2⟩ := H2.out
  subst hqe
  subst hW2
  have hem := empty_free hx hv hm
  have hm1 := HM.out
  rw [if_pos hm1, ← hee] at hem
  have hC' := cache_free (W := (((W1.drewN dd).setCell ⟨u, d / C.size, none⟩ (.bool false)).setCell ⟨p, 2, none⟩ (.int .i64 (m : Int)))) hC hp hx hs hv hm (fun _ => rfl)
  have hC2 := fun n => cache_empty (W := ((((W1.drewN dd).setCell ⟨u, d / C.size, none⟩ (.bool false)).setCell ⟨p, 2, none⟩ (.int .i64 (m : Int))).setCell ⟨c, 5, none⟩ (.int .i64 ((e + 1 : Nat) : Int))).drewN n) (e' := e + 1) hC' (fun _ => rfl)
  obtain ⟨hK, hfar⟩ : _ ∧ _ := ⟨fun n => (free_worlds (W := ((((W1.drewN dd).setCell ⟨u, d / C.size, none⟩ (.bool false)).setCell ⟨p, 2, none⟩ (.int .i64 (m : Int))).setCell ⟨c, 5, none⟩ (.int .i64 ((e + 1 : Nat) : Int))).drewN n) hb1 (show own p ≠ none by rw [hs.ownP]; simp) (show own u ≠ none by rw [hs.ownU]; simp) (show own c ≠ none by rw [hC.ownC]; simp) rfl rfl rfl (by show ((((W1.drewN dd).setCell ⟨u, d / C.size, none⟩ (.bool false)).setCell ⟨p, 2, none⟩ (.int .i64 (m : Int))).setCell ⟨c, 5, none⟩ (.int .i64 ((e + 1 : Nat) : Int))).heap.size = _; rw [setCell_size, setCell_size, setCell_size]; rfl) (fun k h1 h2 h3 => (setCell_far _ _ _ _ h3).trans ((setCell_far _ _ _ _ h1).trans (setCell_far _ _ _ _ h2)))), trivial⟩
  exact free_done H hhit hx hmod hv (by rw [hem]; omega) (by rw [hem]; exact hC2 _) ((hK _).2 b H.bu.lt hpb.symm hub.symm hcb.symm) (hK _).1
end Sl
end Go.Proofs.Ytlknhbcambdccaa
namespace Go.Proofs.Ytlknhbcambdccaa
open Go.RowKit Go.Shelf
namespace Bu
attribute [local go_sem] Oper.semAt_some

def objP (size : Nat) (x : Slb) (i : Nat) : List Nat := ((List.range i).filter fun t => x.us.getD t false).map (addrS size x)
def objK (C : Ca) (k : Nat) : List Nat := (C.sl.take k).flatMap fun x => objP C.size x x.us.length
/-- The allocated objects. -/
def objC (C : Ca) : List Nat := C.sl.flatMap fun x => objP C.size x x.us.length

theorem objP_yes {size i : Nat} {x : Slb} (h : x.us[i]? = some true) : objP size x (i + 1) = objP size x i ++ [addrS size x i] := by
  unfold objP
  rw [List.range_succ, List.filter_append, List.map_append]
  simp [h]
theorem objP_no {size i : Nat} {x : Slb} (h : x.us[i]? = some false) : objP size x (i + 1) = objP size x i := by
  unfold objP
  rw [List.range_succ, List.filter_append, List.map_append]
  simp [h]
theorem objK_succ {C : Ca} {k : Nat} {x : Slb} (h : C.sl[k]? = some x) : objK C (k + 1) = objK C k ++ objP C.size x x.us.length := by
  obtain ⟨hk, he⟩ := List.getElem?_eq_some_iff.1 h
  unfold objK
  rw [List.take_succ_eq_append_getElem hk, List.flatMap_append, he]
  simp
theorem objK_all (C : Ca) : objK C C.sl.length = objC C := by unfold objK objC; rw [List.take_length]
theorem objP_len (size : Nat) (x : Slb) (i : Nat) : (objP size x i).length ≤ i := by
  unfold objP
  rw [List.length_map]
  have := List.length_filter_le (fun t => x.us.getD t false) (List.range i)
  simpa using this
theorem objK_len {C : Ca} (h : ∀ x ∈ C.sl, x.us.length ≤ 128) : ∀ k, k ≤ C.sl.length → (objK C k).length ≤ k * 128 := by
  intro k
  induction k with
  | zero => intro _; simp [objK]
  | succ k ih =>
    intro hk
    obtain ⟨x, hx⟩ : ∃ x, C.sl[k]? = some x := ⟨_, List.getElem?_eq_getElem (by omega)⟩
    have h1 := ih (by omega)
    have h2 := objP_len C.size x x.us.length
    have h3 := h x (List.mem_of_getElem? hx)
    rw [objK_succ hx, List.length_append]
    omega
theorem ok_len {C : Ca} {N : Nat} {L : List Blk} (h1 : CaOk C N L) : C.sl.length ≤ 1024 := by
  have key : ∀ (l : List Slb), l.Pairwise (fun a b => a.pg < b.pg) → ∀ s, (∀ y ∈ l, s ≤ y.pg ∧ y.pg < 1024) → s ≤ 1024 → l.length + s ≤ 1024 := by
    intro l
    induction l with
    | nil => intro _ s _ h; simpa using h
    | cons y l ih =>
      intro hp s hb hs
      rw [List.pairwise_cons] at hp
      have hy := hb y (List.mem_cons_self ..)
      have := ih hp.2 (y.pg + 1) (fun z hz => ⟨hp.1 z hz, (hb z (List.mem_cons_of_mem _ hz)).2⟩) (by omega)
      rw [List.length_cons]; omega
  have := key C.sl h1.asc 0 (fun y hy => ⟨Nat.zero_le _, by
    have h2 := st_le h1.st _ (h1.giv y hy)
    have h3 : y.pg + 2 ^ C.order ≤ 1024 := h2.2
    have := pow_pos2 C.order
    omega⟩) (by omega)
  omega

set_option maxRecDepth 100000 in
set_option maxHeartbeats 4000000 in
theorem objseq (n : Nat) (hn : 2 ≤ n) (b1 c b cap e : Nat) (own : Ow) (C : Ca) (N : Nat) (L : List Blk) (hok : CaOk C N L) (A0 : Option Addr) (R : List Nat) (V : World) (hC0 : Sl.CacheAt V own c b C e A0 cap R) :
    SeqZ Fence.wide n Try.prog 78 #[.pointer (some ⟨b1, 0, none⟩)] (fun a : Nat => #[.int .i64 (a : Int)]) (fun W => b1 < W.heap.size ∧ W.cell? ⟨b1, 0, none⟩ = some (.pointer (some ⟨c, 0, none⟩)))
      (fun W => ∀ z, own z ≠ none → W.heap[z]? = V.heap[z]?) (fun k => k = b1) (fun xs => xs = objC C) (fun _ => True) (fun pre _ => pre.length + 1 ≤ 131072) := by
  intro l J Jx own0 W ⟨hbs, hD⟩ hR hE hf hFJ hFJx hY h0
  have hul : ∀ x ∈ C.sl, x.us.length ≤ 128 := fun x hx => by rw [hok.len x hx]; exact (capa_pos hok).2.1
  have hpg : ∀ x ∈ C.sl, x.pg ≤ 1024 := fun x hx => by
    have h2 : x.pg + 2 ^ C.order ≤ 1024 := (st_le hok.st _ (hok.giv x hx)).2
    have := pow_pos2 C.order
    omega
  have hsl := ok_len hok
  have hsz := hok.sz.2.1
  obtain ⟨m, hm⟩ : ∃ m, m = C.sl.length := ⟨_, rfl⟩
  have hRm : R.length = m := hC0.len.trans hm.symm
  have hCc := (hE own0 [] W h0 c (by rw [hC0.ownC]; simp)).trans hC0.cell
  obtain ⟨_, _, _, _, c4, _, _, _⟩ := Sl.six_cells hCc
  rw [hRm] at c4
  have hKL := objK_len hul
  rw [← hm] at hKL hsl
  have HY := Lib.hid hY
  have HE := Lib.hid hE
  have hR1 := hR b1 rfl
  have HOR := Lib.hid (And.intro hR1 (And.intro hm (And.intro hRm (And.intro hul (And.intro hpg (And.intro hKL (And.intro hFJ hC0)))))))
  have hA : 1 ≤ m → ∃ g, A0 = some ⟨g, 0, none⟩ := fun h => by
    rcases hC0.row.2 with ⟨_, h0⟩ | ⟨g, cp, cur, hv, _⟩
    · omega
    · injection hv with hv; exact ⟨g, hv⟩
  have hcp : m ≤ cap := by
    rcases hC0.row.2 with ⟨hv, h0⟩ | ⟨g, cp, cur, hv, _, _, g1, g2, _⟩
    · omega
    · injection hv with _ _ h3; omega
  have HA := Lib.hid hA
  clear hY hR hE hR1 hok hul hpg hC0 hm hRm hKL hA hFJ hCc
  have hfn : Fence.wide.fn 43 := trivial
  have hdp : Fence.wide.depth.isSome = false := rfl
  have hn1 : 1 ≤ n := by omega
  refine callsIn_of_wp Try.func78 rfl trivial ?_ rfl
  simp only [Try.ntmps78, List.size_toArray, List.length_cons, List.length_nil, Nat.reduceAdd, Nat.reduceSub, Array.replicate_succ, Array.replicate_zero, List.push_toArray, List.append_toArray, List.nil_append, List.cons_append]
  gi_wp2
  gi_loopw [12] (fun i wr => ∃ (k : Nat) (ow : Ow), k ≤ m ∧ i = .int .i64 (k : Int) ∧ J ow (objK C k) wr ∧ Keeps own0 ow W wr) (fun i _ => m - (intOf i).toNat)
  case atStart => exact ⟨0, own0, Nat.zero_le _, rfl, h0, Keeps.refl _ _⟩
  case round =>
    obtain ⟨k, ow, hk, rfl, hJ, hK⟩ := hrel
    obtain ⟨wo, rfl⟩ : ∃ wo : World, wo = wr := ⟨_, rfl⟩
    have e0 : (0 : Int) ≤ (k : Int) := by omega
    by_cases hlt : k < m
    · have e1 : (k : Int) < (m : Int) := by omega
      have hEk := HE.out ow _ wo hJ
      have hC0 := HOR.out.2.2.2.2.2.2.2
      obtain ⟨x, hx⟩ : ∃ x, C.sl[k]? = some x := ⟨_, List.getElem?_eq_getElem (by have := HOR.out.2.1; omega)⟩
      obtain ⟨p, hp⟩ : ∃ p, R[k]? = some p := ⟨_, List.getElem?_eq_getElem (by have := HOR.out.2.2.1; omega)⟩
      obtain ⟨u, uc, hs⟩ := hC0.slab k p x hp hx
      obtain ⟨g, rfl⟩ := HA.out (by omega)
      have r0 : wo.cell? ⟨g, k, none⟩ = some (.pointer (some ⟨p, 0, none⟩)) := (World.cell?_of_block (a := ⟨g, k, none⟩) (hEk g (by rw [hC0.ownG g rfl]; simp))).trans (Sl.row_cell hC0.row (i := k) (v := .pointer (some ⟨p, 0, none⟩)) (by unfold Sl.ptrs; rw [List.getElem?_map, hp]; rfl))
      obtain ⟨_, p1, _, _⟩ := Sl.three_cells ((hEk p (by rw [hs.ownP]; simp)).trans hs.cell)
      have hxl := HOR.out.2.2.2.1 x (List.mem_of_getElem? hx)
      have hxp := HOR.out.2.2.2.2.1 x (List.mem_of_getElem? hx)
      have hkk : IntKind.i64.wrap ((k : Int) + 1) = ((k + 1 : Nat) : Int) := by rw [IntWalk.i64_in _ (by omega)]; rfl
      obtain ⟨q, hq⟩ : ∃ q, q = x.us.length := ⟨_, rfl⟩
      have huc : x.us.length ≤ uc := (Sl.row_caps hs.row).1
      rw [← hq] at p1 hxl huc
      have HJ := Lib.hid (And.intro hJ (And.intro hK (And.intro hx (And.intro hs hq))))
      clear hJ hK hx hp hq hEk hs hC0
      gi_wp2
      gi_loopw [21] (fun i wr => ∃ (t : Nat) (ow2 : Ow), t ≤ q ∧ i = .int .i64 (t : Int) ∧ J ow2 (objK C k ++ objP C.size x t) wr ∧ Keeps own0 ow2 W wr) (fun i _ => q - (intOf i).toNat)
      case atStart => exact ⟨0, ow, Nat.zero_le _, rfl, by simpa [objP] using HJ.out.1, HJ.out.2.1⟩
      case round =>
        obtain ⟨t, ow2, ht, rfl, hJ2, hK2⟩ := hrel
        have e2 : (0 : Int) ≤ (t : Int) := by omega
        by_cases hlt2 : t < q
        · have e3 : (t : Int) < (q : Int) := by omega
          have hc' : wr.cell? ⟨b1, 0, none⟩ = some (.pointer (some ⟨c, 0, none⟩)) := (World.cell?_of_block (a := ⟨b1, 0, none⟩) (hK2.block b1 hbs HOR.out.1)).trans hD
          have hE2 := HE.out ow2 _ wr hJ2
          have hs := HJ.out.2.2.2.1
          obtain ⟨v, hv⟩ : ∃ v, x.us[t]? = some v := ⟨_, List.getElem?_eq_getElem (by have := HJ.out.2.2.2.2; omega)⟩
          have u1 : wr.cell? ⟨u, t, none⟩ = some (.bool v) := (World.cell?_of_block (a := ⟨u, t, none⟩) (hE2 u (by rw [hs.ownU]; simp))).trans (Sl.row_cell hs.row (i := t) (v := .bool v) (by rw [Sl.bcells_get, hv]; rfl))
          have htt : IntKind.i64.wrap ((t : Int) + 1) = ((t + 1 : Nat) : Int) := by rw [IntWalk.i64_in _ (by omega)]; rfl
          cases v with
          | false =>
            have HJ2 := Lib.hid (And.intro hJ2 (And.intro hK2 (objP_no (size := C.size) hv)))
            clear hJ2 hK2 hv hE2 hs
            gi_wp2
            refine ⟨fun f h => (by cases h), ?_⟩
            gi_wp2
            go_roundw
            case rel => exact ⟨t + 1, ow2, by omega, by go_num, by rw [HJ2.out.2.2]; exact HJ2.out.1, HJ2.out.2.1⟩
            case measure => simp [intOf]; omega
          | true =>
            have hadr := Sl.address_ok wr c p C.size x.pg t (Sl.six_cells ((hE2 c (by rw [HOR.out.2.2.2.2.2.2.2.ownC]; simp)).trans HOR.out.2.2.2.2.2.2.2.cell)).2.1 (Sl.three_cells ((hE2 p (by rw [hs.ownP]; simp)).trans hs.cell)).1 hsz hxp (by omega)
            obtain ⟨ad, had⟩ : ∃ ad, ad = 64 * x.pg + t * C.size := ⟨_, rfl⟩
            rw [← had] at hadr
            have HAd := Lib.hid ((callsIn_wide (n := n - 1)).2 hadr)
            have hpl : (objK C k ++ objP C.size x t).length + 1 ≤ 131072 := by
              have h1 := HOR.out.2.2.2.2.2.1 k hk
              have h2 := objP_len C.size x t
              rw [List.length_append]
              omega
            have HJ2 := Lib.hid (And.intro hJ2 (And.intro hK2 (And.intro (objP_yes (size := C.size) hv) (And.intro hpl had))))
            clear hJ2 hK2 hv hE2 hs hadr hpl had
            gi_wp2_with (gi_at_call 43; fail)
            refine HAd.out.mono ?_
            rintro _ w2 ⟨rfl, dd, hw2⟩
            have hJ3 := HOR.out.2.2.2.2.2.2.1 ow2 _ wr w2 HJ2.out.1 (by rw [hw2]; exact Nat.le_refl _) (fun z _ _ => by rw [hw2]; rfl)
            have hf2 : Fresh ow2 w2 := hf.keeps (HJ2.out.2.1.trans (by rw [hw2]; exact ⟨rfl, rfl, rfl, Nat.le_refl _, fun _ _ _ => rfl, fun _ _ => rfl, fun _ h => .inl h⟩))
            obtain ⟨fn, tmps, assign, body, hy, hRd⟩ := HY.out ow2 _ ad w2 hJ3 hf2 HJ2.out.2.2.2.1
            have HR := Lib.hid hRd
            have HW := Lib.hid hw2
            clear hRd hJ3 hf2 hw2
            gi_wp2
            refine HR.out.mono ?_
            rintro e W3 ⟨own3, hK3, (⟨rfl, hJ3⟩ | ⟨rfl, hJ3⟩)⟩
            · have H3 := Lib.hid (And.intro hJ3 hK3)
              clear hJ3 hK3
              gi_wp2
              go_roundw
              case rel =>
                refine ⟨t + 1, own3, by omega, by go_num, ?_, ?_⟩
                · rw [HJ2.out.2.2.1, ← List.append_assoc, show addrS C.size x t = ad from HJ2.out.2.2.2.2.symm]; exact H3.out.1
                · exact (HJ2.out.2.1.trans (by rw [HW.out]; exact ⟨rfl, rfl, rfl, Nat.le_refl _, fun _ _ _ => rfl, fun _ _ => rfl, fun _ h => .inl h⟩)).trans H3.out.2
              case measure => simp [intOf]; omega
            · have H3 := Lib.hid (And.intro hJ3 hK3)
              clear hJ3 hK3
              gi_wp2
              refine bodyPost_ret (results_none rfl _ _ _) rfl ?_
              exact ⟨⟨_, rfl⟩, own3, (HJ2.out.2.1.trans (by rw [HW.out]; exact ⟨rfl, rfl, rfl, Nat.le_refl _, fun _ _ _ => rfl, fun _ _ => rfl, fun _ h => .inl h⟩)).trans H3.out.2, .inr ⟨_, trivial, H3.out.1⟩⟩
        · obtain rfl : t = q := by omega
          have e3 : ¬ ((t : Nat) : Int) < (t : Int) := by omega
          have HJ2 := Lib.hid (And.intro hJ2 hK2)
          clear hJ2 hK2
          gi_wp2
          go_roundw
          case rel => exact ⟨k + 1, ow2, by omega, by go_num, by rw [objK_succ HJ.out.2.2.1, ← HJ.out.2.2.2.2]; exact HJ2.out.1, HJ2.out.2⟩
          case measure => simp [intOf]; omega
    · obtain rfl : k = m := by omega
      have e1 : ¬ ((k : Nat) : Int) < (k : Int) := by omega
      have HJ := Lib.hid (And.intro hJ hK)
      clear hJ hK
      gi_wp2
      go_end0
      refine ⟨⟨_, rfl⟩, ow, HJ.out.2, .inl ?_⟩
      rw [← objK_all, ← HOR.out.2.1]
      exact HJ.out.1
end Bu
end Go.Proofs.Ytlknhbcambdccaa
namespace Go.Proofs
open Go.Shelf
def Try.delSlab_ren : Go.Shelf.Ren := ⟨fun | 45 => 72 | n => n, fun | 22 => 76 | 23 => 97 | 3 => 3 | 4 => 4 | 0 => 0 | n => n, fun | n => n⟩
theorem Try.delSlab : Go.Proofs.SlLaysE.n45 Try.prog Try.delSlab_ren := {
  mixed := by kernel_rfl
  f45 := ⟨Try.f72.name, by decide, Try.func72.trans (congrArg some (by kernel_rfl))⟩
  t0 := Try.underlying0
  a0 := Try.isAgg0
  z0 := Try.sizeOf0
  v0 := Try.zeroValue0
  t3 := Try.underlying3
  a3 := Try.isAgg3
  z3 := Try.sizeOf3
  v3 := Try.zeroValue3
  t4 := Try.underlying4
  a4 := Try.isAgg4
  z4 := Try.sizeOf4
  v4 := Try.zeroValue4
  t22 := Try.underlying76
  a22 := Try.isAgg76
  z22 := Try.sizeOf76
  v22 := Try.zeroValue76
  a23 := Try.isAgg97
  z23 := Try.sizeOf97 }
def Try.cloneB_ren : Go.Shelf.Ren := ⟨fun | 41 => 60 | n => n, fun | 22 => 88 | 23 => 4 | 4 => 4 | n => n, fun | n => n⟩
theorem Try.cloneB : Go.Proofs.SlLaysE0.n41 Try.prog Try.cloneB_ren := {
  mixed := by kernel_rfl
  f41 := ⟨Try.f60.name, by decide, Try.func60.trans (congrArg some (by kernel_rfl))⟩
  t4 := Try.underlying4
  a4 := Try.isAgg4
  z4 := Try.sizeOf4
  v4 := Try.zeroValue4
  t22 := Try.underlying88
  a22 := Try.isAgg88
  z22 := Try.sizeOf88
  v22 := Try.zeroValue88 }
end Go.Proofs
