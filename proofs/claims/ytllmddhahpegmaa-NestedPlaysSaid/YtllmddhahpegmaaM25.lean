/- The walk of NestedPlays. The arguments: a slice of calls, and a call. (open_slice_fields and open_agg5 are the guide's own worked blocks.) The argument: a slice of calls, and the range of what is to be rewound to. -/
import Derived.Test.YtllmddhahpegmaaM24
import Derived.Test.YtllmddhahpegmaaM9
import Derived.WalkKit
import Derived.ProofKit
import Derived.OpenShut
import Derived.ChangeOld
import Derived.Below
import Derived.Deep.Slices
import Derived.Deep.Fields
import Derived.ChangeSame
import Derived.Lib.SmallJoins
namespace Go.Proofs.Ytllmddhahpegmaa
open Go.RowKit
namespace Ne

/-- The tree and the state at the beginning. -/
theorem duo_new {w w1 w2 : World} {own : Ow} {t : Nat} {n : Int} {g cap : Nat} {cur : Array Value} {zs : List SZ} (hH : Held w w1 own t (newTr n)) (hb : Below w1.heap.size w1 w2) (hC : Cop (fun b => w1.heap.size ≤ b) w2 g cap cur zs) (hs : zs.map (·.x) = save (newTr n)) :
    Duo w (w2.alloc (.cells #[.slice (some ⟨g, 0, none⟩) 1 cap] 28)) own t (newTr n) (newTr n) w2.heap.size := by
  have h1 := hH.of_below hb
  have h2 := h1.of_below (below_box w2 (.cells #[.slice (some ⟨g, 0, none⟩) 1 cap] 28))
  have hbs := hb.size
  have hws := hH.below.size
  have no : ∀ b, w1.heap.size ≤ b → own b = none := fun b hb => by
    cases e : own b with
    | none => rfl
    | some v => exact absurd (hH.fresh b (by rw [e]; simp)) (by omega)
  refine ⟨h2, no _ hbs, by omega, g, cap, cur, zs, heap_alloc_new _ _, ?_, hs⟩
  exact hC.strong.keep fun b hb hl => ⟨alloc_old _ _ _ hl, no b hb.1, by omega, by omega⟩

set_option maxRecDepth 100000 in
set_option maxHeartbeats 4000000 in
theorem plays_walk (w : World) (size : Int) (A : Option Addr) (c : Nat) (l : List Cl) (h : CallsAt w A c l) :
    Calls Try.prog 8 #[.int .i64 size, .slice A l.length c] w fun e w' => e = .returned (.bool true) ∧ Below w.heap.size w w' := by
  obtain ⟨hlc, hcm, hcell⟩ := h
  unfold maxLen at hcm
  have HC := Lib.hid hcell
  clear hcell
  by_cases h100 : 100 < l.length
  · generalize l.length = L at *
    go_enter Try.func8, Try.ntmps8
    go_wp2_with (go_at_call 10; refine (awake_ok _).mono ?_; rintro e w2 ⟨rfl, hb2⟩; have HB2 := Lib.hid hb2; clear hb2)
    go_ret
    exact ⟨rfl, HB2.out⟩
  · by_cases hs : size < 1 ∨ 65536 < size
    · have HN := Lib.hid (new_bad size w hs)
      have HN2 := Lib.hid (fun w => newR_bad size w hs)
      have hfd : ∀ w : World, (Instr.field 28 (.agg #[.slice none 0 0]) 0).run Try.prog w = .ok (.slice none 0 0) w := fun _ => by kernel_rfl
      clear hs
      generalize l.length = L at *
      go_enter Try.func8, Try.ntmps8
      go_wp2_with (go_at_call 25; fail)
      refine HN.out.mono ?_
      rintro e w' ⟨rfl, rfl⟩
      go_wp2_with (go_at_call 26; fail)
      refine (HN2.out _).mono ?_
      rintro e w2 ⟨rfl, hb2⟩
      have hs2 := hb2.size
      have HB2 := Lib.hid hb2
      clear hb2
      have hB := Lib.hid (HB2.out.trans ((below_box w2 (.cells #[.slice none 0 0] 28)).mono hs2))
      go_wp2_with (go_at_call 16; fail)
      generalize (w2.alloc (.cells #[.slice none 0 0] 28)) = w3 at *
      refine (alloc_nil _ _ _ _).mono ?_
      rintro e w3' ⟨rfl, rfl⟩
      go_wp2_with (go_at_call 27; fail)
      refine (chain_nil _ _).mono ?_
      rintro e w4 ⟨rfl, hb4⟩
      have B4 := Lib.hid (hB.out.trans (hb4.mono hB.out.size))
      clear hb4
      go_wp2_with (go_at_call 18; fail)
      refine (end_nil _ _).mono ?_
      rintro e w5 ⟨rfl, hb5⟩
      have B5 := Lib.hid (B4.out.trans (hb5.mono B4.out.size))
      clear hb5
      go_wp2_with (go_at_call 20; fail)
      refine (rewind_nil _ _ _).mono ?_
      rintro e w6 ⟨rfl, hb6⟩
      have B6 := Lib.hid (B5.out.trans (hb6.mono B5.out.size))
      clear hb6
      go_wp2_with (go_at_call 24; fail)
      refine (below_nil _ _).mono ?_
      rintro e w7 ⟨⟨A7, c7, rfl⟩, hb7⟩
      have B7 := Lib.hid (B6.out.trans (hb7.mono B6.out.size))
      clear hb7
      go_wp2_with (go_at_call 11; fail)
      refine (save_nil _).mono ?_
      rintro e w8 ⟨rfl, hb8⟩
      have B8 := Lib.hid (B7.out.trans (hb8.mono B7.out.size))
      clear hb8
      go_wp2_with (go_at_call 10; fail)
      refine (awake_ok _).mono ?_
      rintro e w9 ⟨rfl, hb9⟩
      have B9 := Lib.hid (B8.out.trans (hb9.mono B8.out.size))
      clear hb9
      go_wp2
      go_ret
      exact ⟨rfl, B9.out⟩
    · generalize hL : l.length = L at *
      have HL := Lib.hid hL
      clear hL
      have h1 : 1 ≤ size := by omega
      have h2 : size ≤ 65536 := by omega
      clear hs
      go_enter Try.func8, Try.ntmps8
      go_wp2_with (go_at_call 25; fail)
      refine (new_held size w h1 h2).mono ?_
      rintro e w1 ⟨own1, t, rfl, H1⟩
      go_wp2_with (go_at_call 26; fail)
      refine (newR_ok size _ h1 h2).mono ?_
      rintro e w2 ⟨⟨g, cap, cur, zs, rfl, hC, hs⟩, hb2⟩
      have HD := Lib.hid (duo_new H1 hb2 hC hs)
      have hs2 : w2.heap.size < (w2.alloc (.cells #[.slice (some ⟨g, 0, none⟩) 1 cap] 28)).heap.size := by simp
      clear H1 hb2 hC hs
      go_wp2_with fail
      generalize (w2.alloc (.cells #[.slice (some ⟨g, 0, none⟩) 1 cap] 28)) = w3 at *
      go_loopw [9] (fun i wr => ∃ (j : Nat) (own : Ow) (M : Tr), j ≤ L ∧ i = .int .i64 j ∧ Duo w wr own t M M w2.heap.size) (fun i _ => L - (intOf i).toNat)
      case atStart => exact ⟨0, own1, newTr size, Nat.zero_le _, rfl, HD.out⟩
      case round =>
        obtain ⟨j, own, M, hj, rfl, hD⟩ := hrel
        by_cases hjl : j < L
        · obtain ⟨x, hx⟩ : ∃ x, l[j]? = some x := ⟨_, List.getElem?_eq_getElem (by rw [HL.out]; exact hjl)⟩
          obtain ⟨g, o, rfl, hg, y0, y1, k0, k1, k2, k3, k4⟩ := HC.out j x hx
          have k0 := (hD.held.below.cell (p := ⟨g, _, none⟩) hg).trans k0
          have k1 := (hD.held.below.cell (p := ⟨g, _, none⟩) hg).trans k1
          have k2 := (hD.held.below.cell (p := ⟨g, _, none⟩) hg).trans k2
          have k3 := (hD.held.below.cell (p := ⟨g, _, none⟩) hg).trans k3
          have k4 := (hD.held.below.cell (p := ⟨g, _, none⟩) hg).trans k4
          have HDo := Lib.hid (do_ok w wr own t M _ x hD y0 y1)
          clear hD hx
          go_wp2_with (go_at_call 28; fail)
          refine HDo.out.mono ?_
          rintro e w4 ⟨rfl, own4, M4, hD4⟩
          have HD4 := Lib.hid hD4
          clear hD4
          go_wp2
          go_roundw
          case rel => exact ⟨j + 1, own4, M4, by omega, by go_num, HD4.out⟩
          case measure => simp [intOf]; omega
        · obtain rfl : j = L := by omega
          obtain ⟨g5, cap5, cur5, zs5, hbs, hC5, hz5⟩ := hD.st
          obtain ⟨u0, _⟩ := one_cell hbs
          have hSt := hC5.stK hz5
          have hsl := save_length M
          have HSv := Lib.hid (fun w5 (hb : Below wr.heap.size wr w5) => save_ok w5 own t M (hD.held.tree.below hb) hD.held.good)
          have HSm := Lib.hid (fun w5 (hb : Below wr.heap.size wr w5) => hSt.below hb)
          have HBl := Lib.hid hD.held.below
          rw [hsl] at HSv
          clear hD hbs hC5 hz5 hSt
          have S0 : AskS wr w2.heap.size (.slice (some ⟨g5, 0, none⟩) M.length cap5) wr.drew := ⟨(Below.refl _ _).drew, u0⟩
          have S1 : AskS wr w2.heap.size (.slice (some ⟨g5, 0, none⟩) M.length cap5) wr := ⟨Below.refl _ _, u0⟩
          unfold AskS at S0 S1
          have hwl := HBl.out.size
          go_wp2_with fail
          go_region_held3 (fun w' => Below wr.heap.size wr w' ∧ w'.cell? ⟨w2.heap.size, 0, none⟩ = some (.slice (some ⟨g5, 0, none⟩) M.length cap5))
            (first | exact S0 | exact S1 | exact AskS.below (by assumption) hb10 | exact AskS.below (by assumption) hb9 | exact AskS.below (by assumption) hb8 | go_keep)
            (first
            | (go_at_call 11; refine (HSv.out _ (And.left (by assumption))).mono ?_; rintro e w8 ⟨⟨A8, c8, rfl, hS8⟩, hb8⟩; have HS8 := Lib.hid hS8; clear hS8)
            | (go_at_call 23; refine ((show Calls Try.prog 23 #[.agg #[.slice A8 M.length c8], .agg #[.slice (some ⟨g5, 0, none⟩) M.length cap5]] _ _ by rw [← hsl]; exact same_ok _ _ _ A8 _ c8 cap5 (save M) HS8.out (HSm.out _ (And.left (by assumption))))).mono ?_; rintro e w9 ⟨rfl, hb9⟩)
            | (go_at_call 10; refine (awake_ok _).mono ?_; rintro e w10 ⟨rfl, hb10⟩))
          go_wp2
          go_ret
          exact ⟨rfl, HBl.out.trans (Below.mono (And.left (by assumption)) hwl)⟩
end Ne
end Go.Proofs.Ytllmddhahpegmaa
namespace Go.Proofs.Ytllmddhahpegmaa
namespace Ne
open Go.ChangeShapes Go.WideShapes Go.ChangeAt Go.RowKit Go.Deep Go.Joins
section
variable {H : Type} {enc : TypeId × Value → H} {P : Program} {w : World} {base : Nat} {spare : Nat → Bool} {held : Bool}
theorem open_slice_fields {t e : TypeId} {fs : Array Field} {fuel : Nat} {cs : List Value} {x : DataW H × List MemPlace} (ht : P.underlying t = some (.slice e)) (he : P.underlying e = some (.struct fs))
    (hone : oneCellFields P fs = true) (hC : P.cellsOf e = fs.size) (h : DataW.trod enc P w base spare held fuel t cs = some x) :
    (cs = [.slice none 0 0] ∧ x = (.nil, [])) ∨
    ∃ (a : Addr) (len cap m : Nat) (D : Nat → DataW H) (Pl : Nat → List MemPlace), cs = [.slice (some a) len cap] ∧ base ≤ a.block ∧ len ≤ cap ∧ cap ≤ maxLen ∧ m = (if spare a.block then cap else len) ∧
      x = (.slice ((List.range len).map D) ((List.range (m - len)).map fun j => D (len + j)), MemPlace.row a (m * fs.size) ++ (List.range m).flatMap Pl) ∧
      ∀ i, i < m → ∃ (ys : List (DataW H × List MemPlace)) (n : Nat), D i = .agg (ys.map (·.1)) ∧ Pl i = ys.flatMap (·.2) ∧ ys.length = fs.size ∧
        ∀ (j : Nat) (f : Field), fs[j]? = some f → ∃ (v : Value) (y : DataW H × List MemPlace), w.cell? (a.add (i * fs.size + j)) = some v ∧ ys[j]? = some y ∧ DataW.trod enc P w base spare held n f.type [v] = some y := by
  rcases open_slice ht h with h0 | ⟨a, len, cap, m, n, D, Pl, hcs, hb, hl, hm, hmm, hx, hi⟩
  · exact .inl h0
  · refine .inr ⟨a, len, cap, m, D, Pl, hcs, hb, hl, hm, hmm, by rw [hC] at hx; exact hx, fun i him => ?_⟩
    obtain ⟨cs', hc, ht'⟩ := hi i him
    rw [hC] at hc
    obtain ⟨ys, n', hn', hy, hlen, hyl, hf⟩ := DataW.trod_struct he ht'
    obtain ⟨_, hcl, hat⟩ := World.cells?_some hc
    simp only [Prod.mk.injEq] at hy
    refine ⟨ys, n', hy.1, hy.2, hyl, fun j f hj => ?_⟩
    obtain ⟨ho, hk⟩ := hone_of hone j f hj
    have hjl : j < fs.size := (Array.getElem?_eq_some_iff.1 hj).1
    have hcell := hat j hjl
    have hv : cs'[j]? = some (cs'[j]'(by omega)) := List.getElem?_eq_getElem (by omega)
    have h1 := hf j f hj
    rw [ho, hk] at h1
    have hone' : (cs'.drop j).take 1 = [cs'[j]'(by omega)] := by
      rw [List.drop_eq_getElem_cons (by omega)]
      rfl
    rw [hone'] at h1
    have hys : ys[j]? = some (ys[j]'(by omega)) := List.getElem?_eq_getElem (by omega)
    refine ⟨_, _, ?_, hys, h1.trans hys⟩
    rw [← Go.Deep.add_add, hcell, hv]
end
section
variable {H : Type} {enc : TypeId × Value → H} {P : Program} {w : World} {base : Nat} {spare : Nat → Bool} {held : Bool}
theorem open_agg5 {r : Reach} {b0 : Nat} {t : TypeId} {f0 f1 f2 f3 f4 : Field} {v : Value} {d : DataW H} {p : List MemPlace} (hs : P.underlying t = some (.struct #[f0, f1, f2, f3, f4])) (hone : oneCellFields P #[f0, f1, f2, f3, f4] = true) (hC : P.cellsOf t = 5)
    (hv : Value.okWide P w r b0 t v) (h : DataW.Trod enc P w base spare held t v d p) :
    ∃ (v0 v1 v2 v3 v4 : Value) (y0 y1 y2 y3 y4 : DataW H × List MemPlace) (n : Nat), v = .agg #[v0, v1, v2, v3, v4] ∧ d = .agg [y0.1, y1.1, y2.1, y3.1, y4.1] ∧ p = y0.2 ++ (y1.2 ++ (y2.2 ++ (y3.2 ++ y4.2))) ∧
      DataW.trod enc P w base spare held n f0.type [v0] = some y0 ∧ DataW.trod enc P w base spare held n f1.type [v1] = some y1 ∧ DataW.trod enc P w base spare held n f2.type [v2] = some y2 ∧ DataW.trod enc P w base spare held n f3.type [v3] = some y3 ∧ DataW.trod enc P w base spare held n f4.type [v4] = some y4 := by
  obtain ⟨cs, rfl, hsz⟩ := okWide_struct hs hv
  obtain ⟨l⟩ := cs
  match l, hsz.trans hC with
  | [c0, c1, c2, c3, c4], _ =>
    obtain ⟨fuel, hf⟩ := h
    obtain ⟨xs, n, _, hx, _, hlen, hg⟩ := DataW.trod_struct hs hf
    obtain ⟨o0, k0⟩ := hone_of hone 0 f0 rfl
    obtain ⟨o1, k1⟩ := hone_of hone 1 f1 rfl
    obtain ⟨o2, k2⟩ := hone_of hone 2 f2 rfl
    obtain ⟨o3, k3⟩ := hone_of hone 3 f3 rfl
    obtain ⟨o4, k4⟩ := hone_of hone 4 f4 rfl
    match xs, hlen with
    | [y0, y1, y2, y3, y4], _ =>
      simp only [Prod.mk.injEq] at hx
      exact ⟨c0, c1, c2, c3, c4, y0, y1, y2, y3, y4, n, rfl, by simpa using hx.1, by simpa using hx.2, by simpa [Value.cells, o0, k0] using hg 0 f0 rfl, by simpa [Value.cells, o1, k1] using hg 1 f1 rfl, by simpa [Value.cells, o2, k2] using hg 2 f2 rfl, by simpa [Value.cells, o3, k3] using hg 3 f3 rfl, by simpa [Value.cells, o4, k4] using hg 4 f4 rfl⟩
end

theorem list_of {α : Type} (P : Nat → α → Prop) : ∀ len : Nat, (∀ j : Nat, j < len → ∃ x, P j x) → ∃ l : List α, l.length = len ∧ ∀ (j : Nat) (x : α), l[j]? = some x → P j x := by
  intro len
  induction len with
  | zero => exact fun _ => ⟨[], rfl, fun j x hx => by simp at hx⟩
  | succ n ih =>
    intro h
    obtain ⟨l, hl, hp⟩ := ih (fun j hj => h j (by omega))
    obtain ⟨x, hx⟩ := h n (by omega)
    refine ⟨l ++ [x], by simp [hl], fun j y hy => ?_⟩
    rcases Nat.lt_or_ge j n with hj | hj
    · exact hp j y (by rwa [List.getElem?_append_left (by omega)] at hy)
    · rw [List.getElem?_append_right (by omega)] at hy
      have : j = n := by
        have := (List.getElem?_eq_some_iff.1 hy).1
        simp at this; omega
      subst this
      rw [hl, Nat.sub_self] at hy
      obtain rfl : x = y := by simpa using hy
      exact hx

theorem add_plain (g o n : Nat) : (⟨g, o, none⟩ : Addr).add n = ⟨g, o + n, none⟩ := by
  unfold Addr.add
  split
  · next h => rw [h]; rfl
  · rfl

theorem wf_u8 {n : Int} (h : (Lit.int .u8 n).wf = true) : 0 ≤ n ∧ n ≤ 255 := by
  simp only [Lit.wf, Bool.and_eq_true, decide_eq_true_eq] at h
  exact h

section
variable {H : Type} {enc : TypeId × Value → H} {W : World} {v : Value} {d : DataW H} {p : List MemPlace}

set_option maxRecDepth 100000 in
theorem open_calls {r : Reach} {b0 : Nat} (hv : Value.okWide Try.prog W r b0 22 v) (h : DataW.Trod enc Try.prog W 0 (fun _ => true) true 22 v d p) :
    ∃ (A : Option Addr) (c : Nat) (l : List Cl), v = .slice A l.length c ∧ CallsAt W A c l := by
  obtain ⟨A, len, cap, rfl⟩ := okWide_slice Try.underlying22 hv
  obtain ⟨fuel, hf⟩ := h
  rcases open_slice_fields Try.underlying22 Try.underlying49 (by kernel_rfl) (by kernel_rfl) hf with ⟨hcs, _⟩ | ⟨a, l, c, m, D, Pl, hcs, _, hl, hm, hmm, _, hi⟩
  · simp only [Value.cells, List.cons.injEq, Value.slice.injEq, and_true] at hcs
    obtain ⟨rfl, rfl, rfl⟩ := hcs
    exact ⟨none, 0, [], rfl, Nat.le_refl _, Nat.zero_le _, fun j x hx => by simp at hx⟩
  · simp only [Value.cells, List.cons.injEq, Value.slice.injEq, and_true] at hcs
    obtain ⟨rfl, rfl, rfl⟩ := hcs
    have hlm : len ≤ m := by rw [hmm]; split <;> omega
    have hspot : 0 < len → a.spot = none := by
      intro h0
      obtain ⟨ys, n, _, _, _, hfl⟩ := hi 0 (by omega)
      obtain ⟨v0, y0, c0, _, t0⟩ := hfl 0 _ rfl
      have := World.cell?_spot c0
      rwa [Nat.zero_mul, Addr.add, if_pos rfl] at this
    have key : ∀ j : Nat, j < len → ∃ x : Cl, ∃ g o, some a = some ⟨g, o, none⟩ ∧ g < W.heap.size ∧ 0 ≤ x.what ∧ x.what ≤ 255 ∧
        W.cell? ⟨g, o + j * 5, none⟩ = some (.int .u8 x.what) ∧ W.cell? ⟨g, o + j * 5 + 1, none⟩ = some (.int .i64 x.node) ∧ W.cell? ⟨g, o + j * 5 + 2, none⟩ = some (.int .i64 x.items) ∧
        W.cell? ⟨g, o + j * 5 + 3, none⟩ = some (.int .i64 x.size) ∧ W.cell? ⟨g, o + j * 5 + 4, none⟩ = some (.int .i64 x.align) := by
      intro j hj
      obtain ⟨ys, n, _, _, _, hfl⟩ := hi j (by omega)
      obtain ⟨v0, y0, c0, _, t0⟩ := hfl 0 _ rfl
      obtain ⟨v1, y1, c1, _, t1⟩ := hfl 1 _ rfl
      obtain ⟨v2, y2, c2, _, t2⟩ := hfl 2 _ rfl
      obtain ⟨v3, y3, c3, _, t3⟩ := hfl 3 _ rfl
      obtain ⟨v4, y4, c4, _, t4⟩ := hfl 4 _ rfl
      obtain ⟨n0, e0, _, w0⟩ := DataW.trod_int Try.underlying5 t0
      obtain ⟨n1, e1, _, _⟩ := DataW.trod_int Try.underlying3 t1
      obtain ⟨n2, e2, _, _⟩ := DataW.trod_int Try.underlying3 t2
      obtain ⟨n3, e3, _, _⟩ := DataW.trod_int Try.underlying2 t3
      obtain ⟨n4, e4, _, _⟩ := DataW.trod_int Try.underlying2 t4
      simp only [List.cons.injEq, and_true] at e0 e1 e2 e3 e4
      subst e0 e1 e2 e3 e4
      obtain ⟨g, o, spot⟩ := a
      obtain rfl : spot = none := hspot (by omega)
      obtain ⟨w1, w2⟩ := wf_u8 w0
      rw [add_plain] at c0 c1 c2 c3 c4
      have hg : g < W.heap.size := World.block_lt_of_cell? _ (a := ⟨g, _, none⟩) c0
      exact ⟨⟨n0, n1, n2, n3, n4⟩, g, o, rfl, hg, w1, w2, by simpa [Nat.add_assoc] using c0, by simpa [Nat.add_assoc] using c1, by simpa [Nat.add_assoc] using c2, by simpa [Nat.add_assoc] using c3, by simpa [Nat.add_assoc] using c4⟩
    obtain ⟨l, rfl, hp⟩ := list_of _ len key
    exact ⟨some a, cap, l, rfl, hl, hm, hp⟩

set_option maxRecDepth 100000 in
theorem open_call {r : Reach} {b0 : Nat} (hv : Value.okWide Try.prog W r b0 49 v) (h : DataW.Trod enc Try.prog W 0 (fun _ => true) true 49 v d p) :
    ∃ x : Cl, v = .agg #[.int .u8 x.what, .int .i64 x.node, .int .i64 x.items, .int .i64 x.size, .int .i64 x.align] := by
  obtain ⟨v0, v1, v2, v3, v4, y0, y1, y2, y3, y4, n, rfl, _, _, t0, t1, t2, t3, t4⟩ := open_agg5 Try.underlying49 (by kernel_rfl) (by kernel_rfl) hv h
  obtain ⟨n0, e0, _, w0⟩ := DataW.trod_int Try.underlying5 t0
  obtain ⟨n1, e1, _, _⟩ := DataW.trod_int Try.underlying3 t1
  obtain ⟨n2, e2, _, _⟩ := DataW.trod_int Try.underlying3 t2
  obtain ⟨n3, e3, _, _⟩ := DataW.trod_int Try.underlying2 t3
  obtain ⟨n4, e4, _, _⟩ := DataW.trod_int Try.underlying2 t4
  simp only [List.cons.injEq, and_true] at e0 e1 e2 e3 e4
  subst e0 e1 e2 e3 e4
  exact ⟨⟨n0, n1, n2, n3, n4⟩, rfl⟩
end
end Ne
end Go.Proofs.Ytllmddhahpegmaa
namespace Go.Proofs.Ytllmddhahpegmaa
namespace Ne
open Go.ChangeShapes Go.WideShapes Go.ChangeAt Go.RowKit Go.Deep Go.Joins

theorem wf_i64 {n : Int} (h : (Lit.int .i64 n).wf = true) : -9223372036854775808 ≤ n ∧ n ≤ 9223372036854775807 := by
  simp only [Lit.wf, Bool.and_eq_true, decide_eq_true_eq] at h
  exact h

section
variable {H : Type} {enc : TypeId × Value → H} {W : World} {v : Value} {d : DataW H} {p : List MemPlace}

set_option maxRecDepth 100000 in
theorem open_calls_in {r : Reach} {b0 : Nat} (hv : Value.okWide Try.prog W r b0 22 v) (h : DataW.Trod enc Try.prog W 0 (fun _ => true) true 22 v d p) :
    ∃ (A : Option Addr) (c : Nat) (l : List Cl), v = .slice A l.length c ∧ CallsAt W A c l ∧ ∀ x ∈ l, (-9223372036854775808 ≤ x.items ∧ x.items ≤ 9223372036854775807) := by
  obtain ⟨A, len, cap, rfl⟩ := okWide_slice Try.underlying22 hv
  obtain ⟨fuel, hf⟩ := h
  rcases open_slice_fields Try.underlying22 Try.underlying49 (by kernel_rfl) (by kernel_rfl) hf with ⟨hcs, _⟩ | ⟨a, l, c, m, D, Pl, hcs, _, hl, hm, hmm, _, hi⟩
  · simp only [Value.cells, List.cons.injEq, Value.slice.injEq, and_true] at hcs
    obtain ⟨rfl, rfl, rfl⟩ := hcs
    exact ⟨none, 0, [], rfl, ⟨Nat.le_refl _, Nat.zero_le _, fun j x hx => by simp at hx⟩, fun x hx => by simp at hx⟩
  · simp only [Value.cells, List.cons.injEq, Value.slice.injEq, and_true] at hcs
    obtain ⟨rfl, rfl, rfl⟩ := hcs
    have hlm : len ≤ m := by rw [hmm]; split <;> omega
    have hspot : 0 < len → a.spot = none := by
      intro h0
      obtain ⟨ys, n, _, _, _, hfl⟩ := hi 0 (by omega)
      obtain ⟨v0, y0, c0, _, t0⟩ := hfl 0 _ rfl
      have := World.cell?_spot c0
      rwa [Nat.zero_mul, Addr.add, if_pos rfl] at this
    have key : ∀ j : Nat, j < len → ∃ x : Cl, ∃ g o, some a = some ⟨g, o, none⟩ ∧ g < W.heap.size ∧ 0 ≤ x.what ∧ x.what ≤ 255 ∧
        W.cell? ⟨g, o + j * 5, none⟩ = some (.int .u8 x.what) ∧ W.cell? ⟨g, o + j * 5 + 1, none⟩ = some (.int .i64 x.node) ∧ W.cell? ⟨g, o + j * 5 + 2, none⟩ = some (.int .i64 x.items) ∧
        W.cell? ⟨g, o + j * 5 + 3, none⟩ = some (.int .i64 x.size) ∧ W.cell? ⟨g, o + j * 5 + 4, none⟩ = some (.int .i64 x.align) ∧ (-9223372036854775808 ≤ x.items ∧ x.items ≤ 9223372036854775807) := by
      intro j hj
      obtain ⟨ys, n, _, _, _, hfl⟩ := hi j (by omega)
      obtain ⟨v0, y0, c0, _, t0⟩ := hfl 0 _ rfl
      obtain ⟨v1, y1, c1, _, t1⟩ := hfl 1 _ rfl
      obtain ⟨v2, y2, c2, _, t2⟩ := hfl 2 _ rfl
      obtain ⟨v3, y3, c3, _, t3⟩ := hfl 3 _ rfl
      obtain ⟨v4, y4, c4, _, t4⟩ := hfl 4 _ rfl
      obtain ⟨n0, e0, _, w0⟩ := DataW.trod_int Try.underlying5 t0
      obtain ⟨n1, e1, _, _⟩ := DataW.trod_int Try.underlying3 t1
      obtain ⟨n2, e2, _, w3⟩ := DataW.trod_int Try.underlying3 t2
      obtain ⟨n3, e3, _, _⟩ := DataW.trod_int Try.underlying2 t3
      obtain ⟨n4, e4, _, _⟩ := DataW.trod_int Try.underlying2 t4
      simp only [List.cons.injEq, and_true] at e0 e1 e2 e3 e4
      subst e0 e1 e2 e3 e4
      obtain ⟨g, o, spot⟩ := a
      obtain rfl : spot = none := hspot (by omega)
      obtain ⟨w1, w2⟩ := wf_u8 w0
      rw [add_plain] at c0 c1 c2 c3 c4
      have hg : g < W.heap.size := World.block_lt_of_cell? _ (a := ⟨g, _, none⟩) c0
      exact ⟨⟨n0, n1, n2, n3, n4⟩, g, o, rfl, hg, w1, w2, by simpa [Nat.add_assoc] using c0, by simpa [Nat.add_assoc] using c1, by simpa [Nat.add_assoc] using c2, by simpa [Nat.add_assoc] using c3, by simpa [Nat.add_assoc] using c4, wf_i64 w3⟩
    obtain ⟨l, rfl, hp⟩ := list_of _ len key
    refine ⟨some a, cap, l, rfl, ⟨hl, hm, fun j x hx => ?_⟩, fun x hx => ?_⟩
    · obtain ⟨g, o, h0, h1, h2, h3, h4, h5, h6, h7, h8, _⟩ := hp j x hx
      exact ⟨g, o, h0, h1, h2, h3, h4, h5, h6, h7, h8⟩
    · obtain ⟨j, hj⟩ := List.getElem?_of_mem hx
      obtain ⟨_, _, _, _, _, _, _, _, _, _, _, h9⟩ := hp j x hj
      exact h9

end
end Ne
end Go.Proofs.Ytllmddhahpegmaa
