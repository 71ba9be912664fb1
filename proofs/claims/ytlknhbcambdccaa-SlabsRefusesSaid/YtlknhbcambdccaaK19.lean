/- Objects of a cache. Free of an allocated object where no slab is given back. DERIVED: THE SHELF's CONTRACTS AT THIS DUMP, IN PLAIN WORDS (tools/lay-plain.mjs out of 'YtlknhbcambdccaaShelf0.lean', which tools/lay-shelf.mjs wrote): THE SAME DECLARATIONS UNDER THE SAME NAMES: 'import', 'namespace', 'open', 'def', 'theorem' AND NOTHING ELSE: no command of the shelf's: FOR A HAND-IN. Each laying: the table of numbers ('.._ren') and one theorem, a field a fact of the dump's own or the kernel's comparison; each contract: ONE APPLICATION. slices.Delete of one slab. -/
import Derived.Test.YtlknhbcambdccaaK18
import Derived.Test.YtlknhbcambdccaaK4
import Derived.Maps.OwnIn
import Derived.Maps.AppendAt
import Derived.Deep.QuietTactic
import Derived.BigQuiet
import Derived.Shelf.SlLaysE
import Derived.Shelf.SlLaysE0
import Derived.Shelf.SlicesE.Delete
import Derived.Shelf.SlicesE.Clone
import Derived.Ground.SlgnProg
import Derived.Test.YtlknhbcambdccaaProg
import Derived.Test.YtlknhbcambdccaaK16
namespace Go.Proofs.Ytlknhbcambdccaa
open Go.RowKit Go.Shelf
namespace Sl
open Bu
attribute [local go_sem] Oper.semAt_some

def n64 (l : List Nat) : List Value := l.map fun i : Nat => Value.int .i64 (i : Int)
theorem i64_info : (Try.prog.info? 2).map (fun i => (i.zero.isSome, i.zero.map (fun z => z.cells.size), i.size, i.bytes)) = some (true, some 1, 1, 8) := by kernel_rfl

/-- The caller's variable, and its row. -/
def Out64 (bo : Nat) (own : Ow) (pre : List Nat) (V : World) : Prop :=
  ∃ A c, Boxed V bo 48 (.slice A pre.length c) ∧ V.ownsRow bo 2 1 (.slice A pre.length c) pre.length (n64 pre) ∧ own bo ≠ none ∧ ∀ g, (Value.slice A pre.length c).ownBlock = some g → own g ≠ none

theorem out64_keep {bo : Nat} {own : Ow} {L : List Nat} {V V' : World} (h : Out64 bo own L V) (hk : ∀ x, own x ≠ none → x < V.heap.size → V'.heap[x]? = V.heap[x]?) : Out64 bo own L V' := by
  obtain ⟨A, c, hb, hr, ho, hg⟩ := h
  refine ⟨A, c, (hk _ ho hb.lt).trans hb, ⟨hr.1, ?_⟩, ho, hg⟩
  rcases hr.2 with hn | ⟨g, cap, cur, e, hB, hgg, rest⟩
  · exact .inl hn
  · exact .inr ⟨g, cap, cur, e, hB, by rw [hk g (hg g (by rw [e]; rfl)) (lt_of_heap hgg)]; exact hgg, rest⟩

theorem out64_step {bo : Nat} {own : Ow} {pre : List Nat} {V w1 : World} {x : Nat} {A : Option Addr} {c : Nat} {ob : Obj} {v' : Value}
    (hb : Boxed V bo 48 (.slice A pre.length c)) (hr : V.ownsRow bo 2 1 (.slice A pre.length c) pre.length (n64 pre)) (ho : own bo ≠ none) (hg : ∀ g, (Value.slice A pre.length c).ownBlock = some g → own g ≠ none)
    (hown : w1.ownsRow bo 2 1 v' (pre.length + 1) (n64 pre ++ [.int .i64 (x : Int)])) (hgrow : (V.alloc ob).grownBy w1 (Value.slice A pre.length c).ownBlock)
    (hat : v'.ownBlock = (Value.slice A pre.length c).ownBlock ∨ v'.ownBlock = some (V.alloc ob).heap.size) :
    ∃ own', Bu.Keeps own own' V (w1.setCell ⟨bo, 0, none⟩ v') ∧ Out64 bo own' (pre ++ [x]) (w1.setCell ⟨bo, 0, none⟩ v') := by
  have hbl := hb.lt
  obtain ⟨h1, h2, h3, _, h5⟩ := hb.appended (by decide) hr (Nat.le_of_lt hbl) (Nat.le_refl bo) hown hgrow
  obtain ⟨gg, cap, rfl⟩ := ownsRow_succ hown
  have hgs := hgrow.size
  simp at hgs
  refine ⟨fun y => if V.heap.size ≤ y ∧ y = gg then some 0 else own y, ⟨h5.os, h5.tape, h5.output, ?_, fun y hy hn => ?_, fun y hy => ?_, fun y hy => ?_⟩, some ⟨gg, 0, none⟩, cap, by simpa using h2, ?_, ?_, fun g hg' => ?_⟩
  · rw [setCell_size]; omega
  · rw [setCell_far _ _ _ _ (fun e => by rw [e] at hn; exact ho hn), hgrow.block y (by simp; omega) (fun e => hg y e.symm hn)]
    exact Below.heap_alloc _ _ _ hy
  · show (if V.heap.size ≤ y ∧ y = gg then some 0 else own y) = own y
    rw [if_neg (by omega)]
  · by_cases e : V.heap.size ≤ y ∧ y = gg
    · right
      refine ⟨e.1, ?_⟩
      rw [setCell_size, e.2]
      exact (hown.lt gg rfl).2
    · left
      rwa [if_neg e] at hy
  · have : n64 (pre ++ [x]) = n64 pre ++ [.int .i64 (x : Int)] := by simp [n64]
    rw [this]; simpa using h3
  · show (if V.heap.size ≤ bo ∧ bo = gg then some 0 else own bo) ≠ none
    rw [if_neg (by omega)]; exact ho
  · obtain rfl : gg = g := by simpa [Value.ownBlock] using hg'
    show (if V.heap.size ≤ gg ∧ gg = gg then some 0 else own gg) ≠ none
    by_cases e : V.heap.size ≤ gg
    · rw [if_pos ⟨e, rfl⟩]; simp
    · rw [if_neg (by omega)]
      rcases hat with hat | hat
      · exact hg gg hat.symm
      · simp [Value.ownBlock] at hat; omega

theorem objects0_ok (w : World) (c : Nat) :
    Calls Try.prog 49 #[.pointer (some ⟨c, 0, none⟩)] w fun e w' => e = .returned (.func (.func 78) #[] #[.pointer (some ⟨w.heap.size, 0, none⟩)]) ∧
      w' = w.alloc (.cells #[.pointer (some ⟨c, 0, none⟩)] 22) := by
  go_enter Try.func49, Try.ntmps49
  go_wp2
  go_ret
  exact ⟨rfl, rfl⟩

set_option maxRecDepth 100000 in
set_option maxHeartbeats 4000000 in
theorem objects_ok (w : World) (own : Own?) (c b : Nat) (C : Ca) (N : Nat) (L : List Blk) (H : Held w own c b C N L) :
    Calls Try.prog 19 #[.pointer (some ⟨c, 0, none⟩)] w fun e w' => (∃ A cp, e = .returned (.tuple #[.slice A (objC C).length cp, .int .i64 0]) ∧ w'.ownsRow w.heap.size 2 1 (.slice A (objC C).length cp) (objC C).length (n64 (objC C))) ∧ Below w.heap.size w w' := by
  obtain ⟨A0, cap, R, hC⟩ := H.at_
  obtain ⟨c0, _⟩ := six_cells hC.cell
  have HD := Lib.hid (dead_ok w c (some ⟨b, 0, none⟩) c0)
  have HX := Lib.hid (And.intro hC (And.intro H.ok H.fresh))
  clear hC H c0
  refine (callsIn_wide (n := 8)).1 ?_
  refine callsIn_of_wp_marks Try.func19 rfl trivial ?_ rfl
  simp only [Try.ntmps19, List.size_toArray, List.length_cons, List.length_nil, Nat.reduceAdd, Nat.reduceSub, Array.replicate_succ, Array.replicate_zero, List.push_toArray, List.append_toArray, List.nil_append, List.cons_append]
  refine wpIn_wide.2 ?_
  go_wp2_with (first | (go_at_call 34; refine HD.out.mono ?_; rintro e w' ⟨rfl, rfl⟩) | (go_at_call 49; refine (objects0_ok _ _).mono ?_; rintro e w' ⟨rfl, rfl⟩))
  refine (wpIn_wide (n := 8)).1 ?_
  obtain ⟨i0, z0, hi0, hz0, hz1, hz2, hz3⟩ := info_open i64_info
  have s0 : (((w.alloc (.cells #[.slice none 0 0] 48)).alloc (.cells #[.pointer (some ⟨c, 0, none⟩)] 22))).heap.size = w.heap.size + 2 := by simp
  have hb0 : Below w.heap.size w ((w.alloc (.cells #[.slice none 0 0] 48)).alloc (.cells #[.pointer (some ⟨c, 0, none⟩)] 22)) := ((Below.refl _ _).alloc (Nat.le_refl _) _).alloc (by simp) _
  have bO : Boxed ((w.alloc (.cells #[.slice none 0 0] 48)).alloc (.cells #[.pointer (some ⟨c, 0, none⟩)] 22)) w.heap.size 48 (.slice none 0 0) := (Boxed.new w 48 (.slice none 0 0)).alloc _
  have b1 : ((w.alloc (.cells #[.slice none 0 0] 48)).alloc (.cells #[.pointer (some ⟨c, 0, none⟩)] 22)).cell? ⟨w.heap.size + 1, 0, none⟩ = some (.pointer (some ⟨c, 0, none⟩)) := by
    simp
  generalize ((w.alloc (.cells #[.slice none 0 0] 48)).alloc (.cells #[.pointer (some ⟨c, 0, none⟩)] 22)) = W0 at *
  obtain ⟨own0, hown⟩ : ∃ own0 : Ow, ∀ x, own0 x = if x = w.heap.size then some 0 else own x := ⟨fun x => if x = w.heap.size then some 0 else own x, fun _ => rfl⟩
  have hnew : ∀ k, w.heap.size ≤ k → own k = none := fun k hk => by
    refine Classical.byContradiction fun hn => ?_
    have := HX.out.2.2 k hn
    omega
  have HO := Lib.hid hown
  have HB := Lib.hid hb0
  have HN := Lib.hid hnew
  clear hown hb0 hnew
  refine rangeZ (I := fun own2 pre V => Out64 w.heap.size own2 pre V ∧ (∀ z, own z ≠ none → own2 z ≠ none ∧ V.heap[z]? = w.heap[z]?) ∧ (∀ z, own2 z ≠ none → own z ≠ none ∨ w.heap.size ≤ z) ∧ w.heap.size ≤ V.heap.size) (Ix := fun _ _ _ _ => False)
    rfl (by omega) (gf := 78) (lb := #[.pointer (some ⟨w.heap.size + 1, 0, none⟩)]) rfl trivial (enters_of Try.func78 (by kernel_rfl) rfl)
    (objseq (8 - 1) (by omega) (w.heap.size + 1) c b cap _ own C N L HX.out.2.1 A0 R w HX.out.1) own0 ?hf0 ?hD ?hR (fun _ => rfl) ?hE ?hI (fun _ _ _ _ _ h _ _ => h) ?h0 ?a1 ?assign ?body ?done ?stop
  case hf0 =>
    intro x hx
    rw [HO.out] at hx
    by_cases e : x = w.heap.size
    · omega
    · rw [if_neg e] at hx
      have := HX.out.2.2 x hx
      omega
  case hD =>
    intro V hV
    exact ⟨by have := hV.size; omega, (hV.cell (p := ⟨w.heap.size + 1, 0, none⟩) (show w.heap.size + 1 < W0.heap.size by omega)).trans b1⟩
  case hR =>
    rintro x rfl
    exact ⟨by rw [HO.out, if_neg (by omega)]; exact HN.out _ (by omega), by omega⟩
  case hE =>
    rintro own2 pre V ⟨_, h, _⟩ z hz
    exact (h z hz).2
  case hI =>
    rintro own2 pre V V' ⟨h1, h2, h3, h4⟩ hs hk
    exact ⟨out64_keep h1 hk, fun z hz => ⟨(h2 z hz).1, (hk z (h2 z hz).1 (by have := HX.out.2.2 z hz; omega)).trans (h2 z hz).2⟩, h3, by omega⟩
  case h0 =>
    refine ⟨⟨none, 0, bO, World.ownsRow_nil _ _ _ _, by rw [HO.out, if_pos rfl]; simp, fun g hg => by cases hg⟩, fun z hz => ⟨?_, ?_⟩, fun z hz => ?_, by omega⟩
    · rw [HO.out]; split
      · simp
      · exact hz
    · exact HB.out.block z (HX.out.2.2 z hz)
    · rw [HO.out] at hz
      by_cases e : z = w.heap.size
      · exact .inr (by omega)
      · rw [if_neg e] at hz; exact .inl hz
  case assign =>
    intro l x V K hK
    gi_wp2
    exact hK
  case body =>
    rintro l own2 pre x V ⟨⟨A, cp, hb, hr, ho, hg⟩, hz, hz2, hz4⟩ hf2 hlen
    have hbc := hb.cell
    have hbf := hb.frozen
    have hbl := hb.lt
    have HE := Lib.hid (And.intro hb (And.intro ho (And.intro hg (And.intro hz (And.intro hz2 hf2)))))
    clear hb ho hg hz hz2 hf2
    gi_wp2_with (gi_at_builtin; refine wpListIn_append_own_at _ rfl _ _ 48 rfl w.heap.size 2 i0 z0 1 8 Try.underlying48 hi0 hz0 hz1 hz2 hz3 (by omega) (.slice A pre.length cp) pre.length (n64 pre) rfl (hr.alloc _) ⟨V.heap.size, 0, none⟩ 1 1 [.int .i64 (x : Int)] rfl rfl (cell_one_new _ _ _) (by simp [Value.oneCell']) (by unfold maxLen; omega) (by omega) (by simp; omega) ?_
                 intro v' w1 hown' hgrow _ hat
                 obtain ⟨own3, hk3, ho3⟩ := out64_step HE.out.1 hr HE.out.2.1 HE.out.2.2.1 hown' hgrow hat
                 obtain ⟨g', cap', rfl⟩ := ownsRow_succ hown'
                 have hc1 : w1.cell? ⟨w.heap.size, 0, none⟩ = some (.slice A pre.length cp) := (HE.out.1.appended (by decide) hr (by omega) (Nat.le_refl _) hown' hgrow).1.cell
                 have hf1 : w1.frozen? ⟨w.heap.size, 0, none⟩ = false := (HE.out.1.appended (by decide) hr (by omega) (Nat.le_refl _) hown' hgrow).1.frozen
                 have H3 := Lib.hid (And.intro hk3 (And.intro ho3 hgrow))
                 clear hk3 ho3 hgrow)
    refine ⟨own3, H3.out.1, H3.out.2.1, fun z hz => ?_, fun z hz => ?_, by have := H3.out.1.size; omega⟩
    · have h1 := HX.out.2.2 z hz
      have h2 := HE.out.2.2.2.1 z hz
      have h3 : z < V.heap.size := HE.out.2.2.2.2.2 z h2.1
      refine ⟨by rw [H3.out.1.same z h3]; exact h2.1, ?_⟩
      rw [setCell_far _ _ _ _ (by show z ≠ w.heap.size; omega), H3.out.2.2.block z (by rw [World.size_alloc]; omega) (fun e => by have := (hr.lt z e.symm).1; omega), alloc_old V _ z h3]
      exact h2.2
    · rcases H3.out.1.new z hz with h | h
      · exact HE.out.2.2.2.2.1 z h
      · exact .inr (by omega)
  case done =>
    rintro own2 xs V hS ⟨⟨A, cp, hb, hr, ho, hg⟩, hz, hz2, hz4⟩ hK hd hdv
    have hbc := hb.cell
    have HE := Lib.hid (And.intro hS (And.intro hr (And.intro hK (And.intro hdv hz))))
    clear hS hr hK hdv hb ho hg hz hz2
    go_wp2
    refine ⟨by simp, .inl ⟨_, _, rfl, run_takeDeferred HE.out.2.2.2.1, ?_⟩⟩
    refine ⟨_, results_tmp2 rfl _ _ _, ⟨A, cp, by rw [← HE.out.1]; rfl, by rw [← HE.out.1]; exact ownsRow_putObj HE.out.2.1 _ HE.out.2.2.2.1 rfl⟩, ?_⟩
    have hK := HE.out.2.2.1
    have hB := HB.out
    refine ⟨hK.os.trans hB.os, hK.tape.trans hB.tape, hK.output.trans hB.output, ?_, fun x hx => ?_⟩
    · have := hK.size; have := hB.size; simp; omega
    · have := hB.size
      rw [World.putObj_heap_other (by omega)]
      by_cases hox : own x = none
      · rw [hK.block x (by omega) (by rw [HO.out, if_neg (by omega)]; exact hox)]
        exact hB.block x hx
      · exact (HE.out.2.2.2.2 x hox).2
  case stop =>
    rintro _ _ _ _ _ h
    exact h.elim
end Sl
end Go.Proofs.Ytlknhbcambdccaa
namespace Go.Proofs.Ytlknhbcambdccaa
open Go.RowKit
namespace Sl
open Bu

set_option maxRecDepth 100000 in
set_option maxHeartbeats 8000000 in
theorem freeS_many (w : World) (own : Own?) (c b : Nat) (C : Ca) (N : Nat) (L : List Blk) (H : Held w own c b C N L) (at_ : Int) (ha1 : -9223372036854775808 ≤ at_) (ha2 : at_ < 9223372036854775808) (j d : Nat) (hhit : holdS C.order 0 C.sl at_ = some (j, d)) (hmod : d % C.size = 0)
    (hv0 : ∃ x, C.sl[j]? = some x ∧ x.us[d / C.size]? = some true) (hmany : ∀ x, C.sl[j]? = some x → x.many ≠ 1) :
    Calls Try.prog 11 #[.pointer (some ⟨c, 0, none⟩), .int .i64 at_] w fun e w' => FreeS own c b C N L at_ w e w' := by
  obtain ⟨x, hx, hd, -, -, -, hul, -⟩ := hit_data H hhit
  obtain ⟨x', hx', hv⟩ := hv0
  obtain rfl : x = x' := by rw [hx] at hx'; injection hx'
  clear hx'
  obtain ⟨W1, hW1⟩ : ∃ W1, W1 = w.alloc (.cells #[.pointer (some ⟨c, 0, none⟩)] 22) := ⟨_, rfl⟩
  have hb1 : Below w.heap.size w W1 := by rw [hW1]; exact below_box w _
  have hB1 : W1.heap[w.heap.size]? = some (.cells #[.pointer (some ⟨c, 0, none⟩)] 22 (0, 0)) := by rw [hW1, heapAlloc, if_pos rfl]
  have H1 := H.below hb1
  obtain ⟨A, cap, R, hC⟩ := H1.at_
  have hpg : ∀ x ∈ C.sl, x.pg ≤ 1024 := fun x hx => by
    have h2 : x.pg + 2 ^ C.order ≤ 1024 := (st_le H.ok.st _ (H.ok.giv x hx)).2
    have := pow_pos2 C.order
    omega
  have hh := holder_ok W1 own c b C _ A cap R hC hpg H.ok.od H.ok.sz.2.1 at_ ha1 ha2
  unfold HoldR at hh
  rw [hhit] at hh
  simp only at hh
  obtain ⟨p, hp⟩ : ∃ p, R[j]? = some p := ⟨_, List.getElem?_eq_getElem (by have := (List.getElem?_eq_some_iff.1 hx).1; have := hC.len; omega)⟩
  have hh2 : Calls Try.prog 35 #[.pointer (some ⟨c, 0, none⟩), .int .i64 at_] W1 fun e w' => e = .returned (.tuple #[.pointer (some ⟨p, 0, none⟩), .int .i64 (d : Int)]) ∧ ∃ n, w' = W1.drewN n := by
    refine hh.mono ?_
    rintro e w' ⟨⟨p', hp', he⟩, hw⟩
    rw [hp] at hp'
    injection hp' with hp'
    subst hp'
    exact ⟨he, hw⟩
  obtain ⟨c0, _, _, _, _, _, _, _⟩ := six_cells hC.cell
  have HD := Lib.hid (dead_ok W1 c (some ⟨b, 0, none⟩) c0)
  obtain ⟨u, uc, hs⟩ := hC.slab j p x hp hx
  have HH := Lib.hid hh2
  have hsz : (C.size : Int) ≠ 0 := by have := H.ok.sz.1; omega
  have hq : ∀ w : World, (binOp .eql 97 (.pointer (some ⟨p, 0, none⟩)) (.pointer none)).run Try.prog w = .ok (.bool false) w := fun w => run_eql_ptr_nil Try.prog w 97 _ (some ⟨p, 0, none⟩) Try.underlying97
  have e0 : (0 : Int) ≤ (d : Int) := by omega
  have g1 := quo_w64 d C.size hd H.ok.sz.1
  have g2 := rem_w64 d C.size hd H.ok.sz.1
  rw [hmod] at g2
  have e1 : (0 : Int) ≤ (C.size : Int) := by omega
  have g3 : (d : Int) / (C.size : Int) = ((d / C.size : Nat) : Int) := rfl
  have g4 : (d : Int) % (C.size : Int) = 0 := by have : (d : Int) % (C.size : Int) = ((d % C.size : Nat) : Int) := rfl; rw [this, hmod]; rfl
  obtain ⟨q, hqe⟩ : ∃ q, q = d / C.size := ⟨_, rfl⟩
  rw [← hqe] at g1 g3 hv
  have g5 : wrap64 (q : Int) = (q : Int) := by
    have h1 : q ≤ d := by rw [hqe]; exact Nat.div_le_self _ _
    rw [← w64]; exact IntWalk.i64_in _ (by omega)
  have hql : q < x.us.length := (List.getElem?_eq_some_iff.1 hv).1
  have e2 : (0 : Int) ≤ (q : Int) := by omega
  have e3 : (q : Int) < (x.us.length : Int) := by omega
  have e4 : ¬ (x.us.length : Int) ≤ (q : Int) := by omega
  obtain ⟨m, hm⟩ : ∃ m, m + 1 = x.many := ⟨x.many - 1, by have := (many_set hv).2; omega⟩
  have hmle := many_le x
  obtain ⟨hpc, huc, hup, hpb, hub, hcb⟩ := slab_apart hC hs
  obtain ⟨hcap1, hcap2, _⟩ := row_caps hs.row
  have hcap3 : uc ≤ 9223372036854775807 := by unfold maxLen at hcap2; exact hcap2
  have hsz1 : w.heap.size < W1.heap.size := lt_of_heap hB1
  have hwn : own w.heap.size = none := by
    refine Classical.byContradiction fun hn => ?_
    have := H.fresh _ hn
    omega
  have hpw : p ≠ w.heap.size := fun e => by have := hs.ownP; rw [e, hwn] at this; cases this
  have huw : u ≠ w.heap.size := fun e => by have := hs.ownU; rw [e, hwn] at this; cases this
  have hcw : c ≠ w.heap.size := fun e => by have := hC.ownC; rw [e, hwn] at this; cases this
  have hdec : IntKind.i64.wrap (((m + 1 : Nat) : Int) - 1) = (m : Int) := by rw [IntWalk.i64_in _ (by omega)]; omega
  have he1024 : emptyS C.sl ≤ 64 := Nat.le_trans H.ok.emp H.ok.kp
  obtain ⟨e, hee⟩ : ∃ e, e = emptyS C.sl := ⟨_, rfl⟩
  have hinc : IntKind.i64.wrap ((e : Int) + 1) = ((e + 1 : Nat) : Int) := by rw [IntWalk.i64_in _ (by omega)]; rfl
  rw [← hee] at hC
  have hmb : m ≤ 128 := by omega
  have heb : e ≤ 64 := by omega
  have hm0 : 0 < m := by have := hmany x hx; omega
  have hm0i : (0 : Int) < (m : Int) := by omega
  have HX := Lib.hid (And.intro H (And.intro hC (And.intro hs (And.intro hp (And.intro hx (And.intro hv (And.intro hm (And.intro hee (And.intro hqe (And.intro hmod (And.intro hhit (And.intro hb1 (And.intro hB1 (And.intro hul (And.intro hwn (And.intro hsz1 H1))))))))))))))))
  have HW := Lib.hid hW1
  obtain ⟨bx0, _⟩ := Bu.one_cell hB1
  rw [← hm] at hs
  clear hh hh2 hpg hC H c0 hb1 hB1 hW1 hp hx hhit hqe hmod hm hmle hee H1 hwn hcap2 hcap1 hul hd he1024 hv
  go_enter Try.func11, Try.ntmps11
  go_wp2_with (go_at_call 34; fail)
  rw [← HW.out]
  refine HD.out.mono ?_
  rintro e w' ⟨rfl, rfl⟩
  go_wp2_with (go_at_call 35; fail)
  refine HH.out.mono ?_
  rintro _ W2 ⟨rfl, dd, hW2⟩
  have hh2 : ∀ k : Nat, W2.heap[k]? = W1.heap[k]? := fun k => by rw [hW2]; rfl
  obtain ⟨p0, p1, p2, pf⟩ := three_cells ((hh2 p).trans hs.cell)
  obtain ⟨c0, c1, c2, c3, c4, c5, _, f5⟩ := six_cells ((hh2 c).trans HX.out.2.1.cell)
  obtain ⟨bx, _⟩ := Bu.one_cell ((hh2 _).trans HX.out.2.2.2.2.2.2.2.2.2.2.2.2.1)
  have hrU : W2.ownsRow 0 4 1 (.slice (some ⟨u, 0, none⟩) x.us.length uc) x.us.length (bcells x.us) := row_same hs.row fun g _ => hh2 g
  have u1 := row_cell hrU (i := q) (v := .bool true) (by rw [bcells_get, HX.out.2.2.2.2.2.1]; rfl)
  have u2 := row_frozen hrU q
  have H2 := Lib.hid (And.intro hW2 hh2)
  clear hW2 hh2 hrU hs
  go_wp2
  go_ret
  obtain ⟨H, hC, hs, hp, hx, hv, hm, hee, hqe, hmod, hhit, hb1, hB1, hul, hwn, hsz1, H1⟩ := HX.out
  obtain ⟨hW2, hh2⟩ := H2.out
  subst hqe
  subst hW2
  have hem := empty_free hx hv hm
  rw [if_neg (by omega : ¬ m = 0), Nat.add_zero, ← hee] at hem
  have hC' := cache_free (W := (((W1.drewN dd).setCell ⟨u, d / C.size, none⟩ (.bool false)).setCell ⟨p, 2, none⟩ (.int .i64 (m : Int)))) hC hp hx hs hv hm (fun _ => rfl)
  obtain ⟨hK, hfar⟩ := free_worlds (W := (((W1.drewN dd).setCell ⟨u, d / C.size, none⟩ (.bool false)).setCell ⟨p, 2, none⟩ (.int .i64 (m : Int)))) hb1 (show own p ≠ none by rw [hs.ownP]; simp) (show own u ≠ none by rw [hs.ownU]; simp) (show own c ≠ none by rw [hC.ownC]; simp) rfl rfl rfl (by rw [setCell_size, setCell_size]; rfl) (fun k h1 h2 _ => (setCell_far _ _ _ _ h1).trans (setCell_far _ _ _ _ h2))
  exact free_done H hhit hx hmod hv (by rw [hem, hee]; exact H.ok.emp) (by rw [hem]; exact hC') (hfar b H.bu.lt hpb.symm hub.symm hcb.symm) hK

set_option maxRecDepth 100000 in
set_option maxHeartbeats 8000000 in
theorem freeS_one (w : World) (own : Own?) (c b : Nat) (C : Ca) (N : Nat) (L : List Blk) (H : Held w own c b C N L) (at_ : Int) (ha1 : -9223372036854775808 ≤ at_) (ha2 : at_ < 9223372036854775808) (j d : Nat) (hhit : holdS C.order 0 C.sl at_ = some (j, d)) (hmod : d % C.size = 0)
    (hv0 : ∃ x, C.sl[j]? = some x ∧ x.us[d / C.size]? = some true) (hone : ∀ x, C.sl[j]? = some x → x.many = 1) (hkeep : emptyS C.sl + 1 ≤ C.keep) :
    Calls Try.prog 11 #[.pointer (some ⟨c, 0, none⟩), .int .i64 at_] w fun e w' => FreeS own c b C N L at_ w e w' := by
  obtain ⟨x, hx, hd, -, -, -, hul, -⟩ := hit_data H hhit
  obtain ⟨x', hx', hv⟩ := hv0
  obtain rfl : x = x' := by rw [hx] at hx'; injection hx'
  clear hx'
  obtain ⟨W1, hW1⟩ : ∃ W1, W1 = w.alloc (.cells #[.pointer (some ⟨c, 0, none⟩)] 22) := ⟨_, rfl⟩
  have hb1 : Below w.heap.size w W1 := by rw [hW1]; exact below_box w _
  have hB1 : W1.heap[w.heap.size]? = some (.cells #[.pointer (some ⟨c, 0, none⟩)] 22 (0, 0)) := by rw [hW1, heapAlloc, if_pos rfl]
  have H1 := H.below hb1
  obtain ⟨A, cap, R, hC⟩ := H1.at_
  have hpg : ∀ x ∈ C.sl, x.pg ≤ 1024 := fun x hx => by
    have h2 : x.pg + 2 ^ C.order ≤ 1024 := (st_le H.ok.st _ (H.ok.giv x hx)).2
    have := pow_pos2 C.order
    omega
  have hh := holder_ok W1 own c b C _ A cap R hC hpg H.ok.od H.ok.sz.2.1 at_ ha1 ha2
  unfold HoldR at hh
  rw [hhit] at hh
  simp only at hh
  obtain ⟨p, hp⟩ : ∃ p, R[j]? = some p := ⟨_, List.getElem?_eq_getElem (by have := (List.getElem?_eq_some_iff.1 hx).1; have := hC.len; omega)⟩
  have hh2 : Calls Try.prog 35 #[.pointer (some ⟨c, 0, none⟩), .int .i64 at_] W1 fun e w' => e = .returned (.tuple #[.pointer (some ⟨p, 0, none⟩), .int .i64 (d : Int)]) ∧ ∃ n, w' = W1.drewN n := by
    refine hh.mono ?_
    rintro e w' ⟨⟨p', hp', he⟩, hw⟩
    rw [hp] at hp'
    injection hp' with hp'
    subst hp'
    exact ⟨he, hw⟩
  obtain ⟨c0, _, _, _, _, _, _, _⟩ := six_cells hC.cell
  have HD := Lib.hid (dead_ok W1 c (some ⟨b, 0, none⟩) c0)
  obtain ⟨u, uc, hs⟩ := hC.slab j p x hp hx
  have HH := Lib.hid hh2
  have hsz : (C.size : Int) ≠ 0 := by have := H.ok.sz.1; omega
  have hq : ∀ w : World, (binOp .eql 97 (.pointer (some ⟨p, 0, none⟩)) (.pointer none)).run Try.prog w = .ok (.bool false) w := fun w => run_eql_ptr_nil Try.prog w 97 _ (some ⟨p, 0, none⟩) Try.underlying97
  have e0 : (0 : Int) ≤ (d : Int) := by omega
  have g1 := quo_w64 d C.size hd H.ok.sz.1
  have g2 := rem_w64 d C.size hd H.ok.sz.1
  rw [hmod] at g2
  have e1 : (0 : Int) ≤ (C.size : Int) := by omega
  have g3 : (d : Int) / (C.size : Int) = ((d / C.size : Nat) : Int) := rfl
  have g4 : (d : Int) % (C.size : Int) = 0 := by have : (d : Int) % (C.size : Int) = ((d % C.size : Nat) : Int) := rfl; rw [this, hmod]; rfl
  obtain ⟨q, hqe⟩ : ∃ q, q = d / C.size := ⟨_, rfl⟩
  rw [← hqe] at g1 g3 hv
  have g5 : wrap64 (q : Int) = (q : Int) := by
    have h1 : q ≤ d := by rw [hqe]; exact Nat.div_le_self _ _
    rw [← w64]; exact IntWalk.i64_in _ (by omega)
  have hql : q < x.us.length := (List.getElem?_eq_some_iff.1 hv).1
  have e2 : (0 : Int) ≤ (q : Int) := by omega
  have e3 : (q : Int) < (x.us.length : Int) := by omega
  have e4 : ¬ (x.us.length : Int) ≤ (q : Int) := by omega
  obtain ⟨m, hm⟩ : ∃ m, m + 1 = x.many := ⟨x.many - 1, by have := (many_set hv).2; omega⟩
  have hmle := many_le x
  obtain ⟨hpc, huc, hup, hpb, hub, hcb⟩ := slab_apart hC hs
  obtain ⟨hcap1, hcap2, _⟩ := row_caps hs.row
  have hcap3 : uc ≤ 9223372036854775807 := by unfold maxLen at hcap2; exact hcap2
  have hsz1 : w.heap.size < W1.heap.size := lt_of_heap hB1
  have hwn : own w.heap.size = none := by
    refine Classical.byContradiction fun hn => ?_
    have := H.fresh _ hn
    omega
  have hpw : p ≠ w.heap.size := fun e => by have := hs.ownP; rw [e, hwn] at this; cases this
  have huw : u ≠ w.heap.size := fun e => by have := hs.ownU; rw [e, hwn] at this; cases this
  have hcw : c ≠ w.heap.size := fun e => by have := hC.ownC; rw [e, hwn] at this; cases this
  have hdec : IntKind.i64.wrap (((m + 1 : Nat) : Int) - 1) = (m : Int) := by rw [IntWalk.i64_in _ (by omega)]; omega
  have he1024 : emptyS C.sl ≤ 64 := Nat.le_trans H.ok.emp H.ok.kp
  obtain ⟨e, hee⟩ : ∃ e, e = emptyS C.sl := ⟨_, rfl⟩
  have hinc : IntKind.i64.wrap ((e : Int) + 1) = ((e + 1 : Nat) : Int) := by rw [IntWalk.i64_in _ (by omega)]; rfl
  rw [← hee] at hC
  have hmb : m ≤ 128 := by omega
  have heb : e ≤ 64 := by omega
  have hm1 : m = 0 := by have := hone x hx; omega
  have hmz : ¬ 0 < m := by omega
  have hmzi : ¬ (0 : Int) < (m : Int) := by omega
  have HM := Lib.hid hm1
  have hk0 : e + 1 ≤ C.keep := by omega
  have hki : (e : Int) + 1 ≤ (C.keep : Int) := by omega
  have HX := Lib.hid (And.intro H (And.intro hC (And.intro hs (And.intro hp (And.intro hx (And.intro hv (And.intro hm (And.intro hee (And.intro hqe (And.intro hmod (And.intro hhit (And.intro hb1 (And.intro hB1 (And.intro hul (And.intro hwn (And.intro hsz1 H1))))))))))))))))
  have HW := Lib.hid hW1
  obtain ⟨bx0, _⟩ := Bu.one_cell hB1
  rw [← hm] at hs
  clear hkeep hone hm1 hh hh2 hpg hC H c0 hb1 hB1 hW1 hp hx hhit hqe hmod hm hmle hee H1 hwn hcap2 hcap1 hul hd he1024 hv
  go_enter Try.func11, Try.ntmps11
  go_wp2_with (go_at_call 34; fail)
  rw [← HW.out]
  refine HD.out.mono ?_
  rintro e w' ⟨rfl, rfl⟩
  go_wp2_with (go_at_call 35; fail)
  refine HH.out.mono ?_
  rintro _ W2 ⟨rfl, dd, hW2⟩
  have hh2 : ∀ k : Nat, W2.heap[k]? = W1.heap[k]? := fun k => by rw [hW2]; rfl
  obtain ⟨p0, p1, p2, pf⟩ := three_cells ((hh2 p).trans hs.cell)
  obtain ⟨c0, c1, c2, c3, c4, c5, _, f5⟩ := six_cells ((hh2 c).trans HX.out.2.1.cell)
  obtain ⟨bx, _⟩ := Bu.one_cell ((hh2 _).trans HX.out.2.2.2.2.2.2.2.2.2.2.2.2.1)
  have hrU : W2.ownsRow 0 4 1 (.slice (some ⟨u, 0, none⟩) x.us.length uc) x.us.length (bcells x.us) := row_same hs.row fun g _ => hh2 g
  have u1 := row_cell hrU (i := q) (v := .bool true) (by rw [bcells_get, HX.out.2.2.2.2.2.1]; rfl)
  have u2 := row_frozen hrU q
  have H2 := Lib.hid (And.intro hW2 hh2)
  clear hW2 hh2 hrU hs
  go_wp2_with (fail)
  go_quiet (fail)
  go_wp2
  go_ret
  obtain ⟨H, hC, hs, hp, hx, hv, hm, hee, hqe, hmod, hhit, hb1, hB1, hul, hwn, hsz1, H1⟩ := HX.out
  obtain ⟨hW2, hh2⟩ := H2.out
  subst hqe
  subst hW2
  have hem := empty_free hx hv hm
  have hm1 := HM.out
  rw [if_pos hm1, ← hee] at hem
  have hC' := cache_free (W := (((W1.drewN dd).setCell ⟨u, d / C.size, none⟩ (.bool false)).setCell ⟨p, 2, none⟩ (.int .i64 (m : Int)))) hC hp hx hs hv hm (fun _ => rfl)
  have hC2 := fun n => cache_empty (W := ((((W1.drewN dd).setCell ⟨u, d / C.size, none⟩ (.bool false)).setCell ⟨p, 2, none⟩ (.int .i64 (m : Int))).setCell ⟨c, 5, none⟩ (.int .i64 ((e + 1 : Nat) : Int))).drewN n) (e' := e + 1) hC' (fun _ => rfl)
  obtain ⟨hK, hfar⟩ : _ ∧ _ := ⟨fun n => (free_worlds (W := ((((W1.drewN dd).setCell ⟨u, d / C.size, none⟩ (.bool false)).setCell ⟨p, 2, none⟩ (.int .i64 (m : Int))).setCell ⟨c, 5, none⟩ (.int .i64 ((e + 1 : Nat) : Int))).drewN n) hb1 (show own p ≠ none by rw [hs.ownP]; simp) (show own u ≠ none by rw [hs.ownU]; simp) (show own c ≠ none by rw [hC.ownC]; simp) rfl rfl rfl (by show ((((W1.drewN dd).setCell ⟨u, d / C.size, none⟩ (.bool false)).setCell ⟨p, 2, none⟩ (.int .i64 (m : Int))).setCell ⟨c, 5, none⟩ (.int .i64 ((e + 1 : Nat) : Int))).heap.size = _; rw [setCell_size, setCell_size, setCell_size]; rfl) (fun k h1 h2 h3 => (setCell_far _ _ _ _ h3).trans ((setCell_far _ _ _ _ h1).trans (setCell_far _ _ _ _ h2)))), trivial⟩
  exact free_done H hhit hx hmod hv (by rw [hem]; omega) (by rw [hem]; exact hC2 _) ((hK _).2 b H.bu.lt hpb.symm hub.symm hcb.symm) (hK _).1
end Sl
end Go.Proofs.Ytlknhbcambdccaa
namespace Go.Proofs
open Go.Shelf
def Try.delSlab_ren : Go.Shelf.Ren := ⟨fun | 45 => 72 | n => n, fun | 22 => 76 | 23 => 97 | 3 => 3 | 4 => 4 | 0 => 0 | n => n, fun | n => n⟩
theorem Try.delSlab : Go.Proofs.SlLaysE.n45 Try.prog Try.delSlab_ren := {
  mixed := by kernel_rfl
  f45 := ⟨Try.f72.name, by decide, Try.func72.trans (congrArg some (by kernel_rfl))⟩
  t0 := Try.underlying0
  a0 := Try.isAgg0
  z0 := Try.sizeOf0
  v0 := Try.zeroValue0
  t3 := Try.underlying3
  a3 := Try.isAgg3
  z3 := Try.sizeOf3
  v3 := Try.zeroValue3
  t4 := Try.underlying4
  a4 := Try.isAgg4
  z4 := Try.sizeOf4
  v4 := Try.zeroValue4
  t22 := Try.underlying76
  a22 := Try.isAgg76
  z22 := Try.sizeOf76
  v22 := Try.zeroValue76
  a23 := Try.isAgg97
  z23 := Try.sizeOf97 }
def Try.cloneB_ren : Go.Shelf.Ren := ⟨fun | 41 => 60 | n => n, fun | 22 => 88 | 23 => 4 | 4 => 4 | n => n, fun | n => n⟩
theorem Try.cloneB : Go.Proofs.SlLaysE0.n41 Try.prog Try.cloneB_ren := {
  mixed := by kernel_rfl
  f41 := ⟨Try.f60.name, by decide, Try.func60.trans (congrArg some (by kernel_rfl))⟩
  t4 := Try.underlying4
  a4 := Try.isAgg4
  z4 := Try.sizeOf4
  v4 := Try.zeroValue4
  t22 := Try.underlying88
  a22 := Try.isAgg88
  z22 := Try.sizeOf88
  v22 := Try.zeroValue88 }
end Go.Proofs
namespace Go.Proofs.Ytlknhbcambdccaa
open Go.RowKit
namespace Sl
open Bu

def encP (o : Option Nat) : Value := .pointer (o.map fun p => ⟨p, 0, none⟩)
theorem encP_one : OneCell encP := fun _ => rfl
theorem ptrs_enc (R : List Nat) : ptrs R = (R.map some).map encP := by unfold ptrs; rw [List.map_map]; rfl

set_option maxRecDepth 100000 in
theorem delete_ok (w : World) (g cap k : Nat) (R : List Nat) (hr : w.ownsRow 0 97 1 (.slice (some ⟨g, 0, none⟩) R.length cap) R.length (ptrs R)) (hk : k < R.length) :
    Calls Try.prog 72 #[.slice (some ⟨g, 0, none⟩) R.length cap, .int .i64 (k : Int), .int .i64 ((k + 1 : Nat) : Int)] w fun e w' =>
      e = .returned (.slice (some ⟨g, 0, none⟩) (R.eraseIdx k).length cap) ∧ w'.ownsRow 0 97 1 (.slice (some ⟨g, 0, none⟩) (R.eraseIdx k).length cap) (R.eraseIdx k).length (ptrs (R.eraseIdx k)) ∧ OnlyB (some g) w w' := by
  obtain ⟨cur, hg, hs, hx, hn, hc⟩ := row_form hr
  obtain ⟨i0, hi0, hz1⟩ : ∃ i0, Try.prog.info? 97 = some i0 ∧ i0.size = 1 := by
    have := ptr_size
    cases e : Try.prog.info? 97 with
    | none => rw [e] at this; cases this
    | some i0 => rw [e] at this; injection this with this; exact ⟨i0, rfl, this⟩
  have hds : (R.map some).toArray.size = R.length := by simp
  have hH : Go.Sort.Holds encP w g 0 (R.map some).toArray := by
    intro j hj
    rw [hds] at hj
    refine ⟨?_, by simp [World.frozen?, hg]⟩
    rw [cell_of_row w g _ cur _ _ hg, Nat.zero_add]
    have h1 : (ptrs R)[j]? = some (encP (R.map some).toArray[j]!) := by
      rw [ptrs_enc, List.getElem?_map, getElem!_pos _ j (by simpa using hj)]
      simp [hj]
    rw [← hx, List.getElem?_take_of_lt hj, Array.getElem?_toList] at h1
    exact h1
  have hD := AnyE.slices_Delete Try.delSlab encP encP_one none Try.zeroValue97 i0 hi0 hz1 g 0 cap k (k + 1) (R.map some).toArray w hH (by rw [hds]; exact hn) hc (by omega) (by rw [hds]; omega)
  rw [hds] at hD
  have hel : (R.eraseIdx k).length = R.length - 1 := List.length_eraseIdx_of_lt hk
  refine Calls.mono hD ?_
  rintro e w' ⟨he, q, rfl⟩
  obtain ⟨D, hDe⟩ : ∃ D, D = ((R.map some).toArray.toList.take k ++ (R.map some).toArray.toList.drop (k + 1) ++ List.replicate (k + 1 - k) none).toArray := ⟨_, rfl⟩
  rw [← hDe]
  have hDs : D.size = R.length := by rw [hDe]; simp; omega
  have hhp : ∀ z : Nat, (Go.Sort.putRow encP (Go.Sort.ahead w q) g 0 D).heap[z]? = if g = z then (w.heap[z]?).map (Go.Sort.onCells (Go.Sort.putCells encP 0 D)) else w.heap[z]? := fun z => by
    show (w.heap.modify g (Go.Sort.onCells (Go.Sort.putCells encP 0 D)))[z]? = _
    rw [Array.getElem?_modify]
  have hnew : (Go.Sort.putRow encP (Go.Sort.ahead w q) g 0 D).heap[g]? = some (.cells (Go.Sort.putCells encP 0 D cur) 97 (0, 0)) := by
    rw [hhp, if_pos rfl, hg]; rfl
  refine ⟨by rw [he, hel, show R.length - (k + 1 - k) = R.length - 1 by omega], ?_, ⟨rfl, rfl, rfl, ?_, fun z hz => ?_⟩⟩
  · refine row_make hnew (by rw [← hs]; simp [Go.Sort.putCells]) ?_ (by omega) hc (Nat.zero_le _)
    have hpe : ptrs (R.eraseIdx k) = (ptrs R).take k ++ (ptrs R).drop (k + 1) := by
      unfold ptrs
      rw [List.eraseIdx_eq_take_drop_succ, List.map_append, List.map_take, List.map_drop]
    rw [hel]
    apply List.ext_getElem?
    intro t
    rw [List.getElem?_take]
    by_cases ht : t < R.length - 1
    · rw [if_pos ht, Array.getElem?_toList]
      have hts : t < cur.size := by omega
      have hDl : D.toList = (R.eraseIdx k).map some ++ [none] := by
        rw [hDe, List.eraseIdx_eq_take_drop_succ, List.map_append, List.map_take, List.map_drop, show k + 1 - k = 1 by omega]
        rfl
      have hDt : D.toList[t]? = ((R.eraseIdx k)[t]?).map some := by
        rw [hDl, List.getElem?_append_left (by simp [hel]; omega), List.getElem?_map]
      rw [Array.getElem?_toList, Array.getElem?_eq_getElem (by omega)] at hDt
      unfold ptrs
      rw [List.getElem?_map]
      obtain ⟨y, hy⟩ : ∃ y, (R.eraseIdx k)[t]? = some y := ⟨_, List.getElem?_eq_getElem (by omega)⟩
      rw [hy] at hDt ⊢
      injection hDt with hDt
      have h2 : (Go.Sort.putCells encP 0 D cur)[t]? = some (encP D[t]!) := by
        simp [Go.Sort.putCells, hts, hDs, show t < R.length by omega]
      rw [h2, getElem!_pos D t (by omega), hDt]
      rfl
    · rw [if_neg ht]
      symm
      apply List.getElem?_eq_none
      rw [ptrs_len, hel]; omega
  · show (w.heap.modify g _).size = _
    simp
  · rw [hhp, if_neg (fun e => hz (by rw [e]))]
end Sl
end Go.Proofs.Ytlknhbcambdccaa
