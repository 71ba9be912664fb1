/- The program: open. -/
import Derived.Test.YtnkkhbmbbkmfhaaJA3
import Derived.Test.YtnkkhbmbbkmfhaaJM3
import Derived.Deep.CutBlock
import Derived.Deep.CutRange
namespace Go.Proofs.Ytnkkhbmbbkmfhaa
open Go.RowKit Go.Sort Go.Lib
namespace Py

set_option maxRecDepth 100000 in
/-- Appending, in a region that draws: what else stays as it is. -/
theorem step_e2 {α : Type} {enc : α → List Value} {k : Nat} (E : Enc enc k) {ts te : TypeId} {by_ : Nat} (hts : Try.prog.underlying ts = some (.slice te)) (hte : (Try.prog.info? te).map (fun i => (i.zero.isSome, i.zero.map (fun z => z.cells.size), i.size, i.bytes)) = some (true, some k, k, by_)) (hby : by_ ≤ 1000000)
    {w : World} {ops : Array Oper} {o : Oper} {a : Act} {K : Act → World → Prop} {Q : Exit → Act → World → Prop} {F : Prop} (hgd : o.guard = none) (s x : Operand) (ho : o.op = .call { callee := .builtin .append, args := #[s, x], argTypes := #[ts, ts] })
    (n : Nat) (A0 : Option Addr) (c0 : Nat) (X : List α) (hs : a.eval s = .slice A0 X.length c0) (ht : OwnE enc k w n te A0 c0 X)
    (A : Option Addr) (c : Nat) (M : List α) (hx : a.eval x = .slice A M.length c) (hM : EAt enc k w A c M) (hn : A = none → c = 0) (hlen : X.length + M.length ≤ 100000) (hb : n ≤ w.heap.size)
    (h : ∀ A' c' w', OwnE enc k w' n te A' c' (X ++ M) → Below n w w' → (∀ g, g < w.heap.size → A0.map (·.block) ≠ some g → w'.heap[g]? = w.heap[g]?) → K (a.put o.dst (.slice A' (X ++ M).length c')) w') :
    if Region.wanted o (yielded ops a.tmps) = true then Oper.wp Try.prog o a w K Q else F := by
  obtain ⟨A', c', w', hrun, h1, h2, _⟩ := run_append_e E hts hte hby w o.type n A0 c0 X ht A c M hM hn hlen hb
  have hbel : Below n w w' := below_grown h2 hb fun g e => ((OwnE.at E ht).2 g (own_blk e)).1
  exact step_of hgd (wp_append_run s x ho _ _ _ hs hx w' hrun (h A' c' w' h1 hbel fun g hg hne => h2.block g hg fun e => hne (own_blk e.symm)))
theorem gcmp_lt (a b : PU) : gcmp a b < 0 ↔ a.f < b.f ∨ (a.f = b.f ∧ a.p < b.p) := by
  unfold gcmp orV
  by_cases h : cmpV a.f b.f = 0
  · rw [if_neg (by simp [h]), cmpV_lt]
    have := (cmpV_0 _ _).1 h
    omega
  · rw [if_pos h, cmpV_lt]
    have := mt (cmpV_0 _ _).2 h
    omega
theorem ltG (x y : PU) : ltOf gcmp x y = decide (x.f < y.f ∨ (x.f = y.f ∧ x.p < y.p)) := by
  unfold ltOf
  rw [Bool.eq_iff_iff, decide_eq_true_eq, decide_eq_true_eq, gcmp_lt]
theorem swoG : SWO (ltOf gcmp) where
  irrefl x := by rw [ltG]; simp
  trans x y z h1 h2 := by rw [ltG] at *; simp only [decide_eq_true_eq] at *; omega
  ntrans x y z h1 h2 := by rw [ltG] at *; simp only [decide_eq_false_iff_not] at *; omega
theorem sortG_ok (w : World) (B c : Nat) (A : Option Addr) (L : List PU) (hr : OwnE eu 3 w B 66 A c L) (hL : L.length < 4611686018427387904) :
    Calls Try.prog 73 #[.slice A L.length c, .func (.func 74) #[] #[]] w fun e w' => e = .returned (.tuple #[]) ∧
      ∃ L' : List PU, L'.Perm L ∧ L'.Pairwise gle ∧ OwnE eu 3 w' B 66 A c L' ∧ RowOnly A w w' := by
  have eg : ∀ args w, (callFunc 74 args).run Try.prog w = .ok (.enter 74 args) w := enters_of Try.func74 (by kernel_rfl) rfl
  refine (sort_rows EU Try.sortG Try.isAgg66 Try.sizeOf66 gcmp swoG 74 eg (fun x y W => gcmp_ok x y W) w B 66 c A L hr hL).mono ?_
  rintro e w' ⟨he, L', h1, h2, h3, h4⟩
  refine ⟨he, L', h1, h2.imp ?_, h3, h4⟩
  intro a b h
  rw [ltG] at h
  unfold gle
  simp only [decide_eq_false_iff_not] at h
  omega
/-- A trace in memory. -/
structure TrAt (w : World) (t : Nat) (A : Option Addr) (c : Nat) (L : List PU) : Prop where
  ex : ∃ (B : Option Addr) (d mb n : Nat) (D : DataW Unit), w.heap[t]? = some (.cells #[.slice A L.length c, .slice B (gapsV L).length d, .map (some mb), .int .i64 (endV L)] 84 (0, 0)) ∧ EAt eu 3 w B d (gapsV L) ∧ MapAt w mb n D ∧ MapIs D (lastF no L) ∧ Maps.size D = firsts L
  uses : UAt w A c L
theorem TrAt.below {w w' : World} {t : Nat} {A : Option Addr} {c : Nat} {L : List PU} (h : TrAt w t A c L) (hb : Below w.heap.size w w') : TrAt w' t A c L := by
  obtain ⟨B, d, mb, n, D, h1, h2, h3, h4, h5⟩ := h.ex
  exact ⟨⟨B, d, mb, n, D, by rw [hb.block t (lt_of_heap h1)]; exact h1, h2.below hb (Nat.le_refl _), h3.kept (⟨hb.os, hb.tape, hb.output, hb.size, fun k hk _ => hb.block k hk⟩ : w.grownBy w' none) (by simp), h4, h5⟩, h.uses.below hb (Nat.le_refl _)⟩
/-- The loop over the uses. -/
structure OS (w0 wr : World) (L : List PU) (t mb k : Nat) (A : Option Addr) (c : Nat) (B : Option Addr) (d : Nat) (D : DataW Unit) : Prop where
  tr : wr.heap[t]? = some (.cells #[.slice A L.length c, .slice B (rawF no (L.take k)).length d, .map (some mb), .int .i64 (endV (L.take k))] 84 (0, 0))
  row : OwnE eu 3 wr w0.heap.size 66 B d (rawF no (L.take k))
  map : MapAt wr mb k D
  is : MapIs D (lastF no (L.take k))
  size : Maps.size D = firsts (L.take k)
  tlo : w0.heap.size ≤ t
  mlo : w0.heap.size ≤ mb
  below : Below w0.heap.size w0 wr
theorem raw_len (L : List PU) (k : Nat) : (rawF no (L.take k)).length ≤ k := by
  have := firsts_len (L.take k) no
  rw [List.length_take] at this; omega
theorem OS.apart {w0 wr : World} {L : List PU} {t mb k : Nat} {A : Option Addr} {c : Nat} {B : Option Addr} {d : Nat} {D : DataW Unit} (h : OS w0 wr L t mb k A c B d D) : mb ≠ t ∧ (∀ g, B.map (·.block) = some g → g ≠ t ∧ g ≠ mb) := by
  obtain ⟨es, clock, hb, _⟩ := h.map
  refine ⟨fun e => ?_, fun g hg => ?_⟩
  · subst e; rw [h.tr] at hb; cases hb
  · rcases h.row.2 with ⟨hv, _⟩ | ⟨g', cap, cur, hv, _, hgg, _⟩
    · injection hv with hv; rw [hv] at hg; cases hg
    · injection hv with hv _ _
      rw [hv] at hg
      injection hg with hg
      dsimp only at hg
      subst hg
      constructor
      · intro e; subst e; rw [h.tr] at hgg; injection hgg with hgg; injection hgg with _ e _; exact absurd e (by decide)
      · intro e; subst e; rw [hb] at hgg; cases hgg
theorem OS.step {w0 wr w' : World} {L : List PU} {t mb k : Nat} {A : Option Addr} {c : Nat} {B : Option Addr} {d : Nat} {D : DataW Unit} (h : OS w0 wr L t mb k A c B d D) (hb : Below wr.heap.size wr w') : OS w0 w' L t mb k A c B d D :=
  ⟨by rw [hb.block t (lt_of_heap h.tr)]; exact h.tr, row_below h.row hb, h.map.kept (⟨hb.os, hb.tape, hb.output, hb.size, fun k hk _ => hb.block k hk⟩ : wr.grownBy w' none) (by simp), h.is, h.size, h.tlo, h.mlo, h.below.trans (hb.mono h.below.size)⟩
theorem OS.drew {w0 wr : World} {L : List PU} {t mb k : Nat} {A : Option Addr} {c : Nat} {B : Option Addr} {d : Nat} {D : DataW Unit} (h : OS w0 wr L t mb k A c B d D) (q : Nat) : OS w0 (wr.drewN q) L t mb k A c B d D :=
  ⟨h.tr, h.row, h.map, h.is, h.size, h.tlo, h.mlo, below_drewN h.below q⟩
/-- The gap of a use is there, its page is not yet noted. -/
structure OS2 (w0 wr : World) (L : List PU) (t mb k : Nat) (A : Option Addr) (c : Nat) (B : Option Addr) (d : Nat) (D : DataW Unit) : Prop where
  tr : wr.heap[t]? = some (.cells #[.slice A L.length c, .slice B (rawF no (L.take (k + 1))).length d, .map (some mb), .int .i64 (endV (L.take k))] 84 (0, 0))
  row : OwnE eu 3 wr w0.heap.size 66 B d (rawF no (L.take (k + 1)))
  map : MapAt wr mb k D
  is : MapIs D (lastF no (L.take k))
  size : Maps.size D = firsts (L.take k)
  tlo : w0.heap.size ≤ t
  mlo : w0.heap.size ≤ mb
  below : Below w0.heap.size w0 wr
theorem OS.skip {w0 wr : World} {L : List PU} {t mb k : Nat} {A : Option Addr} {c : Nat} {B : Option Addr} {d : Nat} {D : DataW Unit} (h : OS w0 wr L t mb k A c B d D) (hr : rawF no (L.take (k + 1)) = rawF no (L.take k)) : OS2 w0 wr L t mb k A c B d D :=
  ⟨by rw [hr]; exact h.tr, by rw [hr]; exact h.row, h.map, h.is, h.size, h.tlo, h.mlo, h.below⟩
theorem row_sameB {w w' : World} {B e s n : Nat} {v : Value} {xs : List Value} (h : w.ownsRow B e s v n xs) (hk : ∀ g, v.ownBlock = some g → w'.heap[g]? = w.heap[g]?) : w'.ownsRow B e s v n xs := by
  refine ⟨h.1, ?_⟩
  rcases h.2 with hn | ⟨g, cap, cur, rfl, hb, hgg, rest⟩
  · exact .inl hn
  · exact .inr ⟨g, cap, cur, rfl, hb, by rw [hk g rfl]; exact hgg, rest⟩
theorem row_ne {w : World} {B t c : Nat} {A : Option Addr} {L : List PU} {cs : Array Value} (h : OwnE eu 3 w B 66 A c L) (ht : w.heap[t]? = some (.cells cs 84 (0, 0))) : ∀ g, (Value.slice A L.length c).ownBlock = some g → g ≠ t := by
  intro g hg
  rcases h.2 with ⟨hv, _⟩ | ⟨g', cap, cur, hv, _, hgg, _⟩
  · injection hv with hv; rw [hv] at hg; cases hg
  · injection hv with hv _ _
    rw [hv] at hg
    injection hg with hg
    dsimp only at hg
    subst hg
    intro e; subst e; rw [ht] at hgg; injection hgg with hgg; injection hgg with _ e _; exact absurd e (by decide)
theorem blk_ne {w : World} {i j : Nat} {cs ds : Array Value} {T S : TypeId} (hi : w.heap[i]? = some (.cells cs T (0, 0))) (hj : w.heap[j]? = some (.cells ds S (0, 0))) (h : T ≠ S) : i ≠ j := by
  intro e; subst e; rw [hi] at hj; injection hj with hj; injection hj with _ e _; exact h e
theorem row_neT {w : World} {B t c T : Nat} {A : Option Addr} {L : List PU} {cs : Array Value} (h : OwnE eu 3 w B 66 A c L) (ht : w.heap[t]? = some (.cells cs T (0, 0))) (hT : 66 ≠ T) : A.map (·.block) ≠ some t := by
  intro hg
  rcases h.2 with ⟨hv, _⟩ | ⟨g', cap, cur, hv, _, hgg, _⟩
  · injection hv with hv; rw [hv] at hg; cases hg
  · injection hv with hv _ _
    rw [hv] at hg
    injection hg with hg
    dsimp only at hg
    subst hg
    exact blk_ne hgg ht hT rfl
theorem same_box {V w8 : World} {o : Obj} {B : Option Addr} (h : ∀ g, g < (V.alloc o).drew.heap.size → B.map (·.block) ≠ some g → w8.heap[g]? = (V.alloc o).drew.heap[g]?) : ∀ g, g < V.heap.size → B.map (·.block) ≠ some g → w8.heap[g]? = V.heap[g]? := fun g hg hB => by
  rw [h g (Nat.lt_of_lt_of_le hg (by show V.heap.size ≤ (V.alloc o).heap.size; simp)) hB]
  exact alloc_old _ _ _ hg
theorem map_ne {w : World} {mb n t : Nat} {D : DataW Unit} {cs : Array Value} {T : TypeId} (h : MapAt w mb n D) (ht : w.heap[t]? = some (.cells cs T (0, 0))) : mb ≠ t := by
  obtain ⟨es, clock, hb, _⟩ := h
  intro e; subst e; rw [ht] at hb; cases hb
theorem OS.app {w0 V w8 : World} {L : List PU} {t mb k : Nat} {A : Option Addr} {c : Nat} {B : Option Addr} {d : Nat} {D : DataW Unit} (h : OS w0 V L t mb k A c B d D) {A8 : Option Addr} {c8 : Nat} {U : List PU}
    (hsame : ∀ g, g < V.heap.size → B.map (·.block) ≠ some g → w8.heap[g]? = V.heap[g]?) (hb : Below w0.heap.size V w8) (hrow : OwnE eu 3 w8 w0.heap.size 66 A8 c8 U) (hU : U = rawF no (L.take (k + 1))) :
    OS2 w0 (w8.setCell ⟨t, 1, none⟩ (.slice A8 U.length c8)) L t mb k A c A8 c8 D := by
  obtain ⟨hmt, hB⟩ := h.apart
  have htl := lt_of_heap h.tr
  have htB : B.map (·.block) ≠ some t := fun e => (hB t e).1 rfl
  have hmB : B.map (·.block) ≠ some mb := fun e => (hB mb e).2 rfl
  have ht8 : w8.heap[t]? = some (.cells #[.slice A L.length c, .slice B (rawF no (L.take k)).length d, .map (some mb), .int .i64 (endV (L.take k))] 84 (0, 0)) := by rw [hsame t htl htB]; exact h.tr
  have hml := h.map.lt
  have hm8 : w8.heap[mb]? = V.heap[mb]? := hsame mb hml hmB
  refine ⟨?_, ?_, ?_, h.is, h.size, h.tlo, h.mlo, ?_⟩
  · have := setCell_at w8 t 1 _ _ (.slice A8 U.length c8) ht8
    rw [this, hU]; rfl
  · rw [← hU]
    exact row_sameB hrow fun g hg => setCell_far w8 ⟨t, 1, none⟩ _ g (row_ne hrow ht8 g hg)
  · obtain ⟨es, clock, hb', rest⟩ := h.map
    exact ⟨es, clock, by rw [setCell_far _ _ _ _ hmt, hm8]; exact hb', rest⟩
  · exact (h.below.trans hb).setCell h.tlo _
theorem OS2.fin {w0 W w9 : World} {L : List PU} {t mb k : Nat} {A : Option Addr} {c : Nat} {B : Option Addr} {d : Nat} {D : DataW Unit} (h : OS2 w0 W L t mb k A c B d D) (hk : k < L.length)
    (hmap : MapAt w9 mb (k + 1) (D.put (kz (use L k).p) (kd (use L k).t))) (hg : W.grownBy w9 (some mb)) (_hL : (∀ u, u ∈ L → OkU u)) :
    OS w0 (w9.setCell ⟨t, 3, none⟩ (.int .i64 (endV (L.take (k + 1))))) L t mb (k + 1) A c B d (D.put (kz (use L k).p) (kd (use L k).t)) := by
  have hmt := map_ne h.map h.tr
  have htl := lt_of_heap h.tr
  have ht9 : w9.heap[t]? = some (.cells #[.slice A L.length c, .slice B (rawF no (L.take (k + 1))).length d, .map (some mb), .int .i64 (endV (L.take k))] 84 (0, 0)) := by rw [hg.block t htl (fun e => by injection e with e; exact hmt e.symm)]; exact h.tr
  have hrow : OwnE eu 3 w9 w0.heap.size 66 B d (rawF no (L.take (k + 1))) := by
    refine row_sameB h.row fun g hgb => ?_
    have hgl : g < W.heap.size := (h.row.lt g hgb).2
    refine hg.block g hgl fun e => ?_
    injection e with e
    subst e
    obtain ⟨es, clock, hb, _⟩ := h.map
    rcases h.row.2 with ⟨hv, _⟩ | ⟨g', cap, cur, hv, _, hgg, _⟩
    · injection hv with hv; rw [hv] at hgb; cases hgb
    · injection hv with hv _ _
      rw [hv] at hgb
      injection hgb with hgb
      dsimp only at hgb
      subst hgb
      rw [hb] at hgg; cases hgg
  refine ⟨?_, row_sameB hrow fun g hgb => setCell_far w9 ⟨t, 3, none⟩ _ g (row_ne hrow ht9 g hgb), ?_, ?_, ?_, h.tlo, h.mlo, ?_⟩
  · have := setCell_at w9 t 3 _ _ (.int .i64 (endV (L.take (k + 1)))) ht9
    rw [this]; rfl
  · exact hmap.setCell hmt _
  · have hD := h.map.isMap
    have := h.is.put hD (use L k).p (use L k).t
    rw [take_next (use_get hk), lastF_add]
    exact this
  · have hD := h.map.tidy lawI
    rw [h.is.size hD, h.size]
    show firstsF no _ + _ = firstsF no _
    rw [take_next (use_get hk), firstsF_add]
  · have hb9 : Below w0.heap.size W w9 := ⟨hg.os, hg.tape, hg.output, hg.size, fun g hgl => hg.block g (Nat.lt_of_lt_of_le hgl h.below.size) (fun e => by injection e with e; have := h.mlo; omega)⟩
    exact (h.below.trans hb9).setCell h.tlo _
/-- What open says. -/
def OpenOut (w : World) (A : Option Addr) (c : Nat) (L : List PU) (e : Ending) (w' : World) : Prop :=
  (checkV L ≠ 0 → e = .returned (.tuple #[.pointer none, .int .i64 (checkV L)])) ∧ (checkV L = 0 → ∃ t, e = .returned (.tuple #[.pointer (some ⟨t, 0, none⟩), .int .i64 0]) ∧ TrAt w' t A c L) ∧ Below w.heap.size w w'
set_option maxRecDepth 100000 in
set_option maxHeartbeats 8000000 in
theorem open_ok (A : Option Addr) (c : Nat) (L : List PU) (w : World) (h : UAt w A c L) : Calls Try.prog 48 #[.slice A L.length c] w (OpenOut w A c L) := by
  have hcap := h.2.1
  have hlc := h.1
  unfold maxLen at hcap
  have HX := Lib.hid h
  clear h
  by_cases hL : 200 < L.length
  · have hv : checkV L = 3 := by unfold checkV; rw [if_pos hL]
    have HV := Lib.hid hv
    have e500 : (200 : Int) < (L.length : Int) := by omega
    clear hv
    unfold OpenOut
    go_enter Try.func48, Try.ntmps48
    go_wp2
    go_ret2
    exact ⟨fun _ => by rw [HV.out]; rfl, fun e => (by rw [HV.out] at e; cases e), Below.refl _ _⟩
  have hL2 : L.length ≤ 200 := by omega
  have hC := contU_ok A c L w HX.out (by omega)
  have e500 : ¬ (200 : Int) < (L.length : Int) := by omega
  cases hbad : L.any badU with
  | true =>
    have hv : checkV L = 7 := by unfold checkV; rw [if_neg hL, hbad]; rfl
    rw [hbad] at hC
    have HV := Lib.hid hv
    have HC := Lib.hid hC
    clear hv hC hbad
    unfold OpenOut
    go_enter Try.func48, Try.ntmps48
    go_wp2_with (go_at_call 71; refine HC.out.mono ?_; rintro e w1 ⟨rfl, hb1⟩; have HB1 := Lib.hid hb1; clear hb1)
    go_ret2
    exact ⟨fun _ => by rw [HV.out]; rfl, fun e => (by rw [HV.out] at e; cases e), HB1.out⟩
  | false =>
    rw [hbad] at hC
    have hok := (any_bad L).1 hbad
    have hfail : ∀ m, ¬ Good (L.take m) → checkV L = 6 := fun m hm => check_fail hL2 hbad hm
    have hgood : Good L → checkV L = 0 := fun hg => by rw [check_good hL2 hbad, if_pos hg]
    have hnext := fun m (hm : m < L.length) (hg : Good (L.take m)) => good_next_last hok hm hg
    have HH := Lib.hid (And.intro hfail (And.intro hgood (And.intro hnext hok)))
    have HC := Lib.hid hC
    have hmm := @run_makeMap Try.prog
    clear hC hbad hfail hgood hnext hok hL
    go_enter Try.func48, Try.ntmps48
    go_upto_region 7 with (go_at_call 71; refine HC.out.mono ?_; rintro e w1 ⟨rfl, hb1⟩; have HB1 := Lib.hid hb1; clear hb1)
    have hb2 : Below w1.heap.size w1 ((w1.alloc (.map #[] 0)).alloc (.cells #[.slice A L.length c, .slice none 0 0, .map (some w1.heap.size), .int .i64 0] 84)) := (below_box _ _).alloc (by simp) _
    have hos : OS w ((w1.alloc (.map #[] 0)).alloc (.cells #[.slice A L.length c, .slice none 0 0, .map (some w1.heap.size), .int .i64 0] 84)) L (w1.heap.size + 1) w1.heap.size 0 A c none 0 (.map []) := by
      refine ⟨?_, owne_nil _ _ _, (World.ownsMap_made w1 _ _ _).alloc _, mapIs_empty, rfl, by have := HB1.out.size; omega, HB1.out.size, HB1.out.trans (hb2.mono HB1.out.size)⟩
      rw [heapAlloc, if_pos (by simp)]; rfl
    have H0 := Lib.hid hos
    clear hb2 hos
    generalize (w1.alloc (.map #[] 0)).alloc (.cells #[.slice A L.length c, .slice none 0 0, .map (some w1.heap.size), .int .i64 0] 84) = V0 at *
    generalize w1.heap.size + 1 = t at *
    generalize w1.heap.size = mb at *
    go_wp2_with (fail)
    go_loopw [22] (fun i wr => ∃ (k : Nat) (B : Option Addr) (d : Nat) (D : DataW Unit), k ≤ L.length ∧ i = .int .i64 k ∧ Good (L.take k) ∧ OS w wr L t mb k A c B d D) (fun i _ => L.length - (intOf i).toNat)
    case atStart => exact ⟨0, none, 0, _, Nat.zero_le _, rfl, by simp [Good], H0.out⟩
    case round =>
      obtain ⟨k, B, d, D, hk, rfl, hg, hos⟩ := hrel
      by_cases hlt : k < L.length
      · have hX := HX.out.below hos.below (Nat.le_refl _)
        have hn := HH.out.2.2.1 k hlt hg
        have hN := fun (hb : ¬ Good (L.take (k + 1))) => HH.out.1 _ hb
        have hu := HH.out.2.2.2 _ (use_mem hlt)
        have hub : 0 ≤ (use L k).p ∧ (use L k).p < 1024 ∧ 0 ≤ (use L k).f ∧ (use L k).f < (use L k).t ∧ (use L k).t ≤ 1000000000 := ⟨hu.p0, hu.p1, hu.f0, hu.ft, hu.t1⟩
        obtain ⟨g, o, rfl, hgl, d0, d1, d2⟩ := hX.at hlt
        have HO := Lib.hid hos
        have HN := Lib.hid (And.intro hn hN)
        have HG := Lib.hid hg
        clear hX hn hN hu hos hg
        generalize huu : use L k = u at *
        have HU := Lib.hid huu
        clear huu
        obtain ⟨p, f, q⟩ := u
        dsimp only at d0 d1 d2 hub HN
        obtain ⟨up0, up1, uf0, uft, ut1⟩ := hub
        go_upto_region 10 with (fail)
        obtain ⟨V1, hV1⟩ : ∃ V1, V1 = wr.alloc (.cells #[.int .i64 p, .int .i64 f, .int .i64 q] 86) := ⟨_, rfl⟩
        rw [← hV1]
        obtain ⟨ub, hub⟩ : ∃ ub, ub = wr.heap.size := ⟨_, rfl⟩
        rw [← hub]
        have hbx : V1.heap[ub]? = some (.cells #[.int .i64 p, .int .i64 f, .int .i64 q] 86 (0, 0)) := by rw [hV1, hub, heapAlloc, if_pos rfl]
        have hbV : Below wr.heap.size wr V1 := by rw [hV1]; exact below_box _ _
        have hX1 := (HX.out.below HO.out.below (Nat.le_refl _)).below hbV (Nat.le_refl _)
        obtain ⟨x0, x1, x2⟩ := three_at hbx
        have HV1 := Lib.hid (And.intro hbx (And.intro hbV (And.intro hX1 hub)))
        clear hV1 hub hbx hbV hX1 d0 d1 d2
        go_cut [51] from 27 to 100 (fun v wx => Below V1.heap.size V1 wx ∧ ∃ b : Bool, v = .bool b ∧ (b = true ↔ ¬ (0 < k → Ord2 (use L (k - 1)) ⟨p, f, q⟩)))
        case first =>
          rcases Nat.eq_zero_or_pos k with hk0 | hk0
          · subst hk0
            go_quiet (fail)
            go_wp2_with (fail)
            go_meet
            exact ⟨below_drewN (Below.refl _ _) _, false, rfl, by simp⟩
          · obtain ⟨k1, rfl⟩ : ∃ k1 : Nat, k = k1 + 1 := ⟨k - 1, by omega⟩
            obtain ⟨g', o', hgo, _, c0, c1, c2⟩ := HV1.out.2.2.1.at (j := k1) (by omega)
            injection hgo with hgo; injection hgo with hg1 hg2 _
            subst hg1; subst hg2
            have hord : (0 ≤ orV (cmpV (use L k1).f f) (cmpV (use L k1).p p)) ↔ ¬ Ord2 (use L k1) ⟨p, f, q⟩ := by
              have := gcmp_lt (use L k1) ⟨p, f, q⟩
              unfold gcmp at this
              dsimp only at this
              unfold Ord2
              dsimp only
              rw [← this]; omega
            generalize (use L k1).f = bf at *
            generalize (use L k1).p = bp at *
            have HORD := Lib.hid hord
            have hk1l : k1 < L.length := by omega
            have hwk : IntKind.i64.wrap (k1 : Int) = (k1 : Int) := IntWalk.i64_in _ (by omega)
            clear hord c2 x2
            go_still_tail 21, (by kernel_rfl)
            still_call ((cmp64_ok bf f _).mono fun _ _ h => ⟨h.1, h.2.symm⟩)
            repeat still_step
            still_call ((cmpI_ok bp p _).mono fun _ _ h => ⟨h.1, h.2.symm⟩)
            refine wpStill_nil ?_
            change wpList _ _ _ _ _ V1.drew
            go_wp2_with (go_at_call 72; refine (or_ok _ V1.heap.size _ _ (cell_two_c _ _ _ _) (cell_two_d _ _ _ _)).mono ?_; rintro e w1 ⟨rfl, rfl⟩)
            go_meet
            refine ⟨below_drew (below_box _ _), _, rfl, ?_⟩
            show _ ↔ ¬ (_ → Ord2 (use L k1) _)
            rw [decide_eq_true_eq, HORD.out]
            exact ⟨fun h e => h (e hk0), fun h e => h fun _ => e⟩
        case rest =>
          obtain ⟨hbc, b, rfl, hb⟩ := hcut
          have hosc := (HO.out.step HV1.out.2.1).step hbc
          have hbx : wc.heap[ub]? = some (.cells #[.int .i64 p, .int .i64 f, .int .i64 q] 86 (0, 0)) := by rw [hbc.block ub (lt_of_heap HV1.out.1)]; exact HV1.out.1
          have hubw : w.heap.size ≤ ub := by rw [HV1.out.2.2.2]; exact HO.out.below.size
          have HB := Lib.hid (And.intro hosc (And.intro hbx (And.intro hb hubw)))
          clear hbc hb hosc hubw x0 x1 x2
          cases b with
          | true =>
            have hV := HN.out.2 fun hgd => HB.out.2.2.1.1 rfl (HN.out.1.1 hgd).1
            have HV := Lib.hid hV
            clear hV
            go_wp2
            go_ret2
            exact ⟨fun _ => by rw [HV.out]; rfl, fun e => (by rw [HV.out] at e; cases e), HB.out.1.below⟩
          | false =>
            have hord : 0 < k → Ord2 (use L (k - 1)) ⟨p, f, q⟩ := Classical.byContradiction fun hc => by have := HB.out.2.2.1.2 hc; cases this
            have HOR := Lib.hid hord
            obtain ⟨x0, x1, x2⟩ := three_at hbx
            have htr := HB.out.1.tr
            have t1 : wc.cell? ⟨t, 1, none⟩ = some (.slice B (rawF no (L.take k)).length d) := by rw [cell_of_row _ _ _ _ _ _ htr]; rfl
            have t2 : wc.cell? ⟨t, 2, none⟩ = some (.map (some mb)) := by rw [cell_of_row _ _ _ _ _ _ htr]; rfl
            have hlook := fun n => look_map (w := wc.drewN n) HB.out.1.map HB.out.1.is p (key_wf (by omega) (by omega))
            clear hord hbx htr
            obtain ⟨mp, hmp⟩ : ∃ mp, mp = lastF no (L.take k) p := ⟨_, rfl⟩
            rw [← hmp] at hlook
            have HMP := Lib.hid hmp
            clear hmp
            go_upto_region 12 with (fail)
            go_cut [8, 9] from 52 to 100 (fun v x wx => (∃ n, wx = wc.drewN n) ∧ v = .int .i64 (mp.getD 0) ∧ x = .bool mp.isSome)
            case first =>
              generalize mp.getD 0 = gd at *
              generalize mp.isSome = gs at *
              go_quiet (fail)
              go_wp2_with (fail)
              go_meet
              exact ⟨⟨_, rfl⟩, rfl, rfl⟩
            case rest =>
              obtain ⟨⟨n1, hn1⟩, rfl, rfl⟩ := hcut
              obtain ⟨V2, hV2⟩ : ∃ V2, V2 = wc := ⟨_, rfl⟩
              subst hV2
              have hos2 : OS w V2 L t mb k (some ⟨g, o, none⟩) c B d D := by rw [hn1]; exact HB.out.1.drew n1
              have hbx : V2.heap[ub]? = some (.cells #[.int .i64 p, .int .i64 f, .int .i64 q] 86 (0, 0)) := by rw [hn1]; exact HB.out.2.1
              have HO2 := Lib.hid (And.intro hos2 hbx)
              have hubw := HB.out.2.2.2
              clear x0 x1 x2 t1 t2 hn1 hlook
              obtain ⟨x0, x1, x2⟩ := three_at hbx
              clear hbx
              have t1 : V2.cell? ⟨t, 1, none⟩ = some (.slice B (rawF no (L.take k)).length d) := by rw [cell_of_row _ _ _ _ _ _ hos2.tr]; rfl
              clear hos2
              go_upto_if 62 with (fail)
              go_cut [] from 63 to 100 (fun wx => ∃ B' d', OS2 w wx L t mb k (some ⟨g, o, none⟩) c B' d' D ∧ wx.heap[ub]? = some (.cells #[.int .i64 p, .int .i64 f, .int .i64 q] 86 (0, 0)) ∧ ∀ z, mp = some z → z < f)
              case first =>
                have hrs := rawF_add no (use L k) (L.take k)
                rw [← take_next (use_get hlt)] at hrs
                cases mp with
                | none =>
                  have hr2 : rawF no (L.take (k + 1)) = rawF no (L.take k) := by
                    rw [hrs, HU.out]; unfold gapM; dsimp only; rw [← HMP.out]; simp
                  have HR2 := Lib.hid hr2
                  clear hrs hr2
                  go_wp2_with (fail)
                  go_meet
                  exact ⟨B, d, HO2.out.1.skip HR2.out, HO2.out.2, fun z hz => by cases hz⟩
                | some qt =>
                  have hr2 : rawF no (L.take (k + 1)) = rawF no (L.take k) ++ [⟨p, qt, f⟩] := by
                    rw [hrs, HU.out]; unfold gapM; dsimp only; rw [← HMP.out]
                  have HR2 := Lib.hid hr2
                  clear hrs hr2
                  by_cases hle : f ≤ qt
                  · have hV := HN.out.2 fun hgd => by
                      have := (HN.out.1.1 hgd).2 qt HMP.out.symm
                      omega
                    have HV := Lib.hid hV
                    clear hV
                    go_wp2
                    go_ret2
                    exact ⟨fun _ => by rw [HV.out]; rfl, fun e => (by rw [HV.out] at e; cases e), HO2.out.1.below⟩
                  · have hrl := raw_len L k
                    have htr := HO2.out.1.tr
                    have hne1 := row_neT HO2.out.1.row HO2.out.2 (by decide)
                    have hne2 := blk_ne HO2.out.2 htr (by decide)
                    have hne3 := row_neT HO2.out.1.row htr (by decide)
                    have HNE := Lib.hid (And.intro hne1 (And.intro hne2 hne3))
                    have HTR := Lib.hid htr
                    have hsz := HO2.out.1.below.size
                    have htl := lt_of_heap htr
                    have hul := lt_of_heap HO2.out.2
                    have hlen1 : (rawF no (L.take k)).length + [(⟨p, qt, f⟩ : PU)].length ≤ 100000 := by simp only [List.length_cons, List.length_nil]; omega
                    have hbase1 : w.heap.size ≤ (V2.alloc (.cells #[.int .i64 p, .int .i64 qt, .int .i64 f] 66)).drew.heap.size := Nat.le_trans hsz (by rw [show (V2.alloc (.cells #[.int .i64 p, .int .i64 qt, .int .i64 f] 66)).drew.heap.size = V2.heap.size + 1 from by simp [World.drew]]; exact Nat.le_succ _)
                    have HLB := Lib.hid (And.intro hlen1 hbase1)
                    clear hne1 hne2 hne3 htr hlen1 hbase1
                    go_upto_region 16 with (fail)
                    go_region_law (first
                      | (refine step_e2 EU Try.underlying42 gap_info (by decide) ?_ (.tmp 71) (.tmp 78) ?_ w.heap.size B d (rawF no (L.take k)) ?_ (HO2.out.1.row.alloc _) (some ⟨V2.heap.size, 0, none⟩) 1 [⟨p, qt, f⟩] ?_ (oneU V2 _ ⟨p, qt, f⟩) (fun h => by cases h) ?_ ?_ ?_
                         (exact rfl)
                         (exact rfl)
                         (exact rfl)
                         (exact rfl)
                         (exact HLB.out.1)
                         (exact HLB.out.2)
                         intro A8 c8 w8 h8 b8 s8
                         obtain ⟨U, hU⟩ : ∃ U, U = rawF no (L.take k) ++ [⟨p, qt, f⟩] := ⟨_, rfl⟩
                         rw [← hU] at h8 ⊢
                         have hs8 := same_box s8
                         have ht8 := (hs8 t htl HNE.out.2.2).trans HTR.out
                         have g1 : w8.cell? ⟨t, 1, none⟩ = some (.slice B (rawF no (L.take k)).length d) := by rw [cell_of_row _ _ _ _ _ _ ht8]; rfl
                         have g2 : w8.frozen? ⟨t, 1, none⟩ = false := by simp [World.frozen?, ht8]
                         have H8 := Lib.hid (And.intro h8 (And.intro b8 (And.intro hs8 hU)))
                         clear h8 b8 s8 hs8 ht8 hU))
                    all_goals
                      go_wp2_with (fail)
                      go_meet
                      refine ⟨A8, c8, HO2.out.1.app H8.out.2.2.1 (((below_drew (Below.refl _ _)).alloc hsz _).trans H8.out.2.1) H8.out.1 (by rw [H8.out.2.2.2, HR2.out]), ?_, fun z hz => by injection hz with hz; omega⟩
                      rw [setCell_far _ _ _ _ HNE.out.2.1, H8.out.2.2.1 ub hul HNE.out.1]
                      exact HO2.out.2
              case rest =>
                obtain ⟨B', d', ho3, hbx, hzz⟩ := hcut
                obtain ⟨V3, hV3⟩ : ∃ V3, V3 = wc := ⟨_, rfl⟩
                subst hV3
                have hgd := HN.out.1.2 ⟨HOR.out, fun z hz => by
                  rw [← HMP.out] at hz
                  exact hzz z hz⟩
                have HGD := Lib.hid hgd
                clear hgd x0 x1 x2 t1 hzz
                obtain ⟨x0, x1, x2⟩ := three_at hbx
                have htr := ho3.tr
                have hmap := ho3.map
                have t2 : V3.cell? ⟨t, 2, none⟩ = some (.map (some mb)) := by rw [cell_of_row _ _ _ _ _ _ htr]; rfl
                have HO3 := Lib.hid (And.intro ho3 hbx)
                have hpk := key_wf (p := p) (by omega) (by omega)
                have hqk := key_wf (p := q) (by omega) (by omega)
                have HK := Lib.hid (And.intro hpk (And.intro hqk hmap))
                clear ho3 hbx htr hmap hpk hqk
                go_upto_region 17 with (fail)
                go_still_tail 8, (by kernel_rfl)
                change wpList _ _ _ _ _ V3.drew
                go_wp2_with (first
                  | (at_mapUpdate; refine wpList_mapUpdate_own _ rfl _ _ _ 82 rfl 3 2 lawI Try.underlying82 _ mb k D rfl HK.out.2.2 (by unfold maxLen; omega) _ _ _ rfl rfl (Maps.keyOf_int_mk Try.underlying3 HK.out.1) _ [] (plainElem_int Try.underlying2 HK.out.2.1) ?_; intro w9 hown9 hg9; have H9 := Lib.hid (And.intro hown9 hg9); clear hown9 hg9))
                have hmt := map_ne HO3.out.1.map HO3.out.1.tr
                have htl := lt_of_heap HO3.out.1.tr
                have hul := lt_of_heap HO3.out.2
                have hum := map_ne HO3.out.1.map HO3.out.2
                have ht9 : w9.heap[t]? = V3.heap[t]? := H9.out.2.block t htl (fun e => by injection e with e; exact hmt e.symm)
                have hu9 : w9.heap[ub]? = V3.heap[ub]? := H9.out.2.block ub hul (fun e => by injection e with e; exact hum e.symm)
                rw [HO3.out.1.tr] at ht9
                rw [HO3.out.2] at hu9
                have g3 : w9.cell? ⟨t, 3, none⟩ = some (.int .i64 (endV (L.take k))) := by rw [cell_of_row _ _ _ _ _ _ ht9]; rfl
                have gf : w9.frozen? ⟨t, 3, none⟩ = false := by simp [World.frozen?, ht9]
                obtain ⟨_, _, u2⟩ := three_at hu9
                have hfin : ∀ W9 : World, (MapAt W9 mb (k + 1) (D.put (kz p) (kd q)) → V3.grownBy W9 (some mb) → OS w (W9.setCell ⟨t, 3, none⟩ (.int .i64 (endV (L.take (k + 1))))) L t mb (k + 1) (some ⟨g, o, none⟩) c B' d' (D.put (kz p) (kd q))) := fun W9 h1 h2 => by
                  have := HO3.out.1.fin hlt (w9 := W9) (by rw [HU.out]; exact h1) h2 HH.out.2.2.2
                  rw [HU.out] at this
                  exact this
                have hev := endV_take hlt
                rw [HU.out] at hev
                have HFI := Lib.hid hfin
                have HEV := Lib.hid hev
                clear hmt htl hul hum ht9 hu9 hfin hev x0 x1 x2 t2
                generalize endV (L.take k) = ek at *
                go_upto_region 18 with (fail)
                go_still_tail 10, (by kernel_rfl)
                change wpList _ _ _ _ _ w9.drew
                go_wp2_with (fail)
                have hosf : OS w (w9.setCell ⟨t, 3, none⟩ (.int .i64 (max ek q))).drew L t mb (k + 1) (some ⟨g, o, none⟩) c B' d' (D.put (kz p) (kd q)) := by
                  have := HFI.out w9 H9.out.1 ⟨H9.out.2.os, H9.out.2.tape, H9.out.2.output, H9.out.2.size, H9.out.2.block⟩
                  rw [HEV.out] at this
                  exact this.drew 1
                have HOSF := Lib.hid hosf
                clear hosf
                go_roundw
                case rel => exact ⟨k + 1, B', d', _, by omega, by go_num, HGD.out, HOSF.out⟩
                case measure => simp [intOf]; omega
      · obtain rfl : k = L.length := by omega
        rw [List.take_length] at hg
        have hv := HH.out.2.1 hg
        have hokL := (checkV_ok L).1 hv
        have HV := Lib.hid hv
        have t1 : wr.cell? ⟨t, 1, none⟩ = some (.slice B (rawF no (L.take L.length)).length d) := by rw [cell_of_row _ _ _ _ _ _ hos.tr]; rfl
        have hrl := raw_len L L.length
        have hso := sortG_ok wr w.heap.size d B _ hos.row (by omega)
        have hfin : ∀ (w' : World) (L' : List PU), L'.Perm (rawF no (L.take L.length)) → L'.Pairwise gle → OwnE eu 3 w' w.heap.size 66 B d L' → RowOnly B wr w' → TrAt w' t A c L ∧ Below w.heap.size w w' := by
          intro w' L' h1 h2 h3 h4
          have hX := HX.out
          rw [List.take_length] at h1
          have hg2 : L' = gapsV L := gaps_only hokL h1 h2
          subst hg2
          obtain ⟨hmt, hB⟩ := hos.apart
          have htr := hos.tr
          have hbelow : Below w.heap.size wr w' := h4.below hos.below.size fun g hg => (hos.row.lt g (by cases B with | none => cases hg | some a => exact hg)).1
          have ht' : w'.heap[t]? = wr.heap[t]? := h4.block t (lt_of_heap htr) fun e => (hB t e).1 rfl
          have hm' : w'.heap[mb]? = wr.heap[mb]? := h4.block mb hos.map.lt fun e => (hB mb e).2 rfl
          rw [htr, List.take_length, ← h1.length_eq] at ht'
          have hbw := hos.below.trans hbelow
          refine ⟨⟨⟨B, d, mb, L.length, D, ht', (OwnE.at EU h3).1, ?_, by have := hos.is; rwa [List.take_length] at this, by have := hos.size; rwa [List.take_length] at this⟩, hX.below hbw (Nat.le_refl _)⟩, hbw⟩
          obtain ⟨es, clock, hb, rest⟩ := hos.map
          exact ⟨es, clock, by rw [hm']; exact hb, rest⟩
        have HS := Lib.hid (And.intro hso hfin)
        clear hso hfin hos hg hv hokL hrl
        generalize rawF no (L.take L.length) = raw at *
        go_wp2_with (go_at_call 73; refine HS.out.1.mono ?_; rintro e w5 ⟨rfl, L', h1, h2, h3, h4⟩; have H5 := Lib.hid (HS.out.2 w5 L' h1 h2 h3 h4); clear h1 h2 h3 h4)
        go_ret2
        exact ⟨fun e => absurd HV.out e, fun _ => ⟨t, rfl, H5.out.1⟩, H5.out.2⟩
end Py
end Go.Proofs.Ytnkkhbmbbkmfhaa
