/- over of the law: one series lies over another one. Bytes that lie somewhere; a cover. proposed of the law: another envelope. -/
import Derived.Test.YtionocafkaemiaaDoorK3
import Derived.Test.YtionocafkaemiaaDoorJL1
import Derived.Test.YtionocafkaemiaaDoorJA4
import Derived.Test.YtionocafkaemiaaDoorJR5
import Derived.Test.YtionocafkaemiaaDoorK2
import Derived.Test.YtionocafkaemiaaDoorJA26
import Derived.Test.YtionocafkaemiaaDoorJR16
namespace Go.Proofs.YtionocafkaemiaaDoor
open Go.RowKit Go.Lib
namespace Sx
theorem above_val {V L : List Sm} {u t : Int} (h : Above V L u) (h0 : (sm L 0).a ≤ t) (ht : inT t = true) : ∃ x y, valS V t = (x, 0) ∧ valS L t = (y, 0) ∧ y ≤ x := by
  obtain ⟨h1, h2, h3⟩ := h.ge t h0
  have c1 := (checkS_ok V).2 h.ok
  have c2 := (checkS_ok L).2 h.okL
  refine ⟨_, _, ?_, ?_, h3⟩
  · unfold valS idx
    rw [if_neg (by simpa using c1), if_neg (by rw [ht]; simp), if_neg (by omega)]
  · unfold valS idx
    rw [if_neg (by simpa using c2), if_neg (by rw [ht]; simp), if_neg (by omega)]
theorem inT_of {L : List Sm} (h : OkS L) {k : Nat} (hk : k < L.length) : inT (sm L k).a = true := by
  have := h.ok _ (sm_mem hk)
  exact inT_iff.2 ⟨this.a0, this.a1⟩
set_option maxRecDepth 100000 in
set_option maxHeartbeats 8000000 in
theorem over_okL (A : Option Addr) (c : Nat) (V : List Sm) (B : Option Addr) (d : Nat) (L : List Sm) (u : Int) (W : World) (hA : SAt W A c V) (hB : SAt W B d L) (hab : Above V L u) (hn : 0 < L.length) :
    Calls Tryd.prog 20 #[sv A V.length c, sv B L.length d, .int .i64 u] W fun e w' => e = .returned (.bool true) ∧ Below W.heap.size W w' := by
  obtain ⟨k1, k2⟩ := two_boxes W #[.slice A V.length c] #[.slice B L.length d] 24 24
  have hb : Below W.heap.size W ((W.alloc (.cells #[.slice A V.length c] 24)).alloc (.cells #[.slice B L.length d] 24)) := (below_box W _).alloc (by simp) _
  have hCk : ∀ U, Below W.heap.size W U → Calls Tryd.prog 24 #[sv A V.length c] U fun e w' => e = .returned (.int .i64 0) ∧ Below U.heap.size U w' := fun U hU => by
    have := check_ok A c V U (hA.below hU (Nat.le_refl _))
    rw [(checkS_ok V).2 hab.ok] at this
    exact this
  have hv1 : V.length ≤ 500 := hab.ok.len
  have hv2 : L.length ≤ 500 := hab.okL.len
  have hvp := hab.pos
  have HAB := Lib.hid (And.intro hab hn)
  have HC := Lib.hid hCk
  go_enter Tryd.func20, Tryd.ntmps20
  go_upto_region 1 with (fail)
  obtain ⟨U, hU⟩ : ∃ U, U = (W.alloc (.cells #[.slice A V.length c] 24)).alloc (.cells #[.slice B L.length d] 24) := ⟨_, rfl⟩
  rw [← hU] at k1 k2 hb ⊢
  obtain ⟨r, hr⟩ : ∃ r, r = W.heap.size := ⟨_, rfl⟩
  have HU := Lib.hid (And.intro hb (And.intro hA (And.intro hB hr)))
  obtain ⟨g1, o1, rfl, hg1, a0, a1⟩ := (hA.below hb (Nat.le_refl _)).s2 hvp
  obtain ⟨g2, o2, rfl, hg2, b0, b1⟩ := (hB.below hb (Nat.le_refl _)).s2 hn
  obtain ⟨k, hk⟩ : ∃ k, V.length = k + 1 := ⟨V.length - 1, by omega⟩
  obtain ⟨g', o', e, _, l0, l1⟩ := (hA.below hb (Nat.le_refl _)).s2 (show k < V.length by omega)
  injection e with e; injection e with e1 e2 _
  subst e1; subst e2
  have hf := hab.first
  have hla := hab.last
  rw [show V.length - 1 = k by omega] at hla
  obtain ⟨xa, hxa⟩ : ∃ z, z = (sm L 0).a := ⟨_, rfl⟩
  obtain ⟨ya, hya⟩ : ∃ z, z = (sm V k).a := ⟨_, rfl⟩
  rw [hf, ← hxa] at a0
  rw [← hxa] at b0
  rw [← hya] at l0 hla
  rw [Nat.zero_mul, Nat.add_zero] at a0 b0
  have s0 := one_at k1
  have t0 := one_at k2
  have HK := Lib.hid (And.intro hk (And.intro hxa k1))
  rw [hk] at s0 HC hv1 ⊢
  rw [← hr] at s0 t0
  have hbr : Below r W U := by rw [hr]; exact hb
  have hS : ∀ X, Below U.heap.size U X → Below U.heap.size U X ∧ X.cell? ⟨r, 0, none⟩ = some (.slice (some ⟨g1, o1, none⟩) (k + 1) c) ∧ X.cell? ⟨r + 1, 0, none⟩ = some (.slice (some ⟨g2, o2, none⟩) L.length d) ∧ X.cell? ⟨g1, o1, none⟩ = some (.int .i64 xa) ∧ X.cell? ⟨g2, o2, none⟩ = some (.int .i64 xa) ∧ X.cell? ⟨g1, o1 + k * 2, none⟩ = some (.int .i64 ya) := fun X hX => ⟨hX, cell_keep2 hX s0, cell_keep2 hX t0, cell_keep2 hX a0, cell_keep2 hX b0, cell_keep2 hX l0⟩
  have HS := Lib.hid hS
  have HBR := Lib.hid (fun X (hX : Below U.heap.size U X) => hb.trans (hX.mono hb.size))
  have s1 := HS.out U.drew (below_drew (Below.refl _ _))
  have hrun : Below U.heap.size U U.drew := below_drew (Below.refl _ _)
  have hki : ¬ ((k : Int) + 1 - 1 < 0) := by omega
  have hni : (0 : Int) < (L.length : Int) := by omega
  have hniN : 0 < L.length := hn
  have hki2 : (0 : Int) < (k : Int) + 1 := by omega
  have hki3 : (k : Int) < (k : Int) + 1 := by omega
  have hla2 : ¬ u ≤ ya := by omega
  rw [show W.heap.size = r from hr.symm]
  have hVAL : ∀ t, xa ≤ t → inT t = true → ∃ x y : Int, y ≤ x ∧ (∀ X, Below U.heap.size U X → Calls Tryd.prog 34 #[sv (some ⟨g1, o1, none⟩) (k + 1) c, .int .i64 t] X fun e w' => e = .returned (.tuple #[.int .i64 x, .int .i64 0]) ∧ Below X.heap.size X w') ∧ (∀ X, Below U.heap.size U X → Calls Tryd.prog 34 #[sv (some ⟨g2, o2, none⟩) L.length d, .int .i64 t] X fun e w' => e = .returned (.tuple #[.int .i64 y, .int .i64 0]) ∧ Below X.heap.size X w') := fun t h0 ht => by
    obtain ⟨x, y, h1, h2, h3⟩ := above_val hab (by rw [← hxa]; exact h0) ht
    refine ⟨x, y, h3, fun X hX => ?_, fun X hX => ?_⟩
    · have := value_ok (some ⟨g1, o1, none⟩) c V t X (hA.below (hb.trans (hX.mono hb.size)) (Nat.le_refl _))
      rw [h1, show (sv (some ⟨g1, o1, none⟩) V.length c) = sv (some ⟨g1, o1, none⟩) (k + 1) c from by rw [hk]] at this
      exact this
    · have := value_ok (some ⟨g2, o2, none⟩) d L t X (hB.below (hb.trans (hX.mono hb.size)) (Nat.le_refl _))
      rw [h2] at this
      exact this
  have HVAL := Lib.hid hVAL
  have hTM1 : ∀ X, Below U.heap.size U X → ∀ j, j < k + 1 → ∃ t, xa ≤ t ∧ inT t = true ∧ X.cell? ⟨g1, o1 + j * 2, none⟩ = some (.int .i64 t) := fun X hX j hj => by
    obtain ⟨g', o', e, _, l0, _⟩ := (hA.below (hb.trans (hX.mono hb.size)) (Nat.le_refl _)).s2 (show j < V.length by omega)
    injection e with e; injection e with e1 e2 _
    subst e1; subst e2
    exact ⟨_, by rw [hxa, ← hf]; exact first_ge hab.ok (by omega), inT_of hab.ok (by omega), l0⟩
  have hTM2 : ∀ X, Below U.heap.size U X → ∀ j, j < L.length → ∃ t, xa ≤ t ∧ inT t = true ∧ X.cell? ⟨g2, o2 + j * 2, none⟩ = some (.int .i64 t) := fun X hX j hj => by
    obtain ⟨g', o', e, _, l0, _⟩ := (hB.below (hb.trans (hX.mono hb.size)) (Nat.le_refl _)).s2 hj
    injection e with e; injection e with e1 e2 _
    subst e1; subst e2
    exact ⟨_, by rw [hxa]; exact first_ge hab.okL (by omega), inT_of hab.okL (by omega), l0⟩
  have HTM := Lib.hid (And.intro hTM1 hTM2)
  clear hVAL hTM1 hTM2 hS hA hB hb hbr hU k1 k2 hxa hya hr a1 b1 l1 hg1 hg2 hab hn hCk hvp hf hk
  have q1 : IntKind.i64.wrap ((k : Int) + 1 - 1) = (k : Int) := by rw [IntWalk.i64_in _ (by omega)]; omega
  have q3 : IntKind.i64.wrap (k : Int) = (k : Int) := IntWalk.i64_in _ (by omega)
  have q4 : (0 : Int) ≤ (k : Int) := by omega
  go_region_held3 (fun X => Below U.heap.size U X ∧ X.cell? ⟨r, 0, none⟩ = some (.slice (some ⟨g1, o1, none⟩) (k + 1) c) ∧ X.cell? ⟨r + 1, 0, none⟩ = some (.slice (some ⟨g2, o2, none⟩) L.length d) ∧ X.cell? ⟨g1, o1, none⟩ = some (.int .i64 xa) ∧ X.cell? ⟨g2, o2, none⟩ = some (.int .i64 xa) ∧ X.cell? ⟨g1, o1 + k * 2, none⟩ = some (.int .i64 ya))
    (first | assumption | exact HS.out _ hrun)
    (first | (go_at_call 24; ((with_reducible refine (HC.out _ (HBR.out _ hrun)).mono ?_); rintro e w4 ⟨rfl, hb4⟩; replace hrun := hrun.trans (hb4.mono hrun.size))))
  all_goals
    have H4 := Lib.hid hrun
    clear hrun a0 b0 l0
    go_wp2_with (fail)
    go_loopw [7] (fun i wr => ∃ j : Nat, j ≤ k + 1 + L.length ∧ i = .int .i64 (j : Int) ∧ Below U.heap.size U wr) (fun i _ => (k + 1 + L.length) - (intOf i).toNat)
    case atStart => exact ⟨0, by omega, rfl, H4.out⟩
    case round =>
      obtain ⟨j, hj, rfl, hbl⟩ := hrel
      obtain ⟨_, s0, t0, _⟩ := HS.out wr hbl
      have qs : IntKind.i64.wrap ((k : Int) + 1 + (L.length : Int)) = (k : Int) + 1 + (L.length : Int) := IntWalk.i64_in _ (by omega)
      by_cases hj1 : j < k + 1
      · have c1 : (j : Int) < (k : Int) + 1 + (L.length : Int) := by omega
        have c2 : (j : Int) < (k : Int) + 1 := by omega
        obtain ⟨tm, ht1, ht2, htm⟩ := HTM.out.1 wr hbl j hj1
        obtain ⟨x, y, yx, hX1, hX2⟩ := HVAL.out tm ht1 ht2
        have HX1 := Lib.hid hX1
        have HX2 := Lib.hid hX2
        clear ht1 ht2 hX1 hX2
        go_upto_region 10 with (fail)
        have y1 := yx
        have HT := Lib.hid htm
        clear htm
        go_wp2_with (first
          | (go_at_call 34; with_reducible refine (HX1.out _ hbl).mono ?_; rintro e w5 ⟨rfl, hb5⟩; replace hbl := hbl.trans (hb5.mono hbl.size); obtain ⟨_, s0, t0, _⟩ := HS.out _ hbl; clear HX1)
          | (go_at_call 34; with_reducible refine (HX2.out _ hbl).mono ?_; rintro e w6 ⟨rfl, hb6⟩; replace hbl := hbl.trans (hb6.mono hbl.size); obtain ⟨_, s0, t0, _⟩ := HS.out _ hbl; clear HX2))
        go_roundw
        case rel => exact ⟨j + 1, by omega, by go_num, hbl⟩
        case measure => simp [intOf]; omega
      · by_cases hj2 : j < k + 1 + L.length
        · have c1 : (j : Int) < (k : Int) + 1 + (L.length : Int) := by omega
          have c2 : ¬ (j : Int) < (k : Int) + 1 := by omega
          obtain ⟨m, hm⟩ : ∃ m, j = k + 1 + m := ⟨j - (k + 1), by omega⟩
          have qd : IntKind.i64.wrap ((j : Int) - ((k : Int) + 1)) = (m : Int) := by rw [IntWalk.i64_in _ (by omega)]; omega
          have c3 : (m : Int) < (L.length : Int) := by omega
          obtain ⟨tm, ht1, ht2, htm⟩ := HTM.out.2 wr hbl m (by omega)
          obtain ⟨x, y, yx, hX1, hX2⟩ := HVAL.out tm ht1 ht2
          have HX1 := Lib.hid hX1
          have HX2 := Lib.hid hX2
          have HM := Lib.hid hm
          clear ht1 ht2 hX1 hX2 hm
          go_upto_region 10 with (fail)
          have y1 := yx
          have HT := Lib.hid htm
          clear htm
          go_wp2_with (first
            | (go_at_call 34; with_reducible refine (HX1.out _ hbl).mono ?_; rintro e w5 ⟨rfl, hb5⟩; replace hbl := hbl.trans (hb5.mono hbl.size); obtain ⟨_, s0, t0, _⟩ := HS.out _ hbl; clear HX1)
            | (go_at_call 34; with_reducible refine (HX2.out _ hbl).mono ?_; rintro e w6 ⟨rfl, hb6⟩; replace hbl := hbl.trans (hb6.mono hbl.size); obtain ⟨_, s0, t0, _⟩ := HS.out _ hbl; clear HX2))
          go_roundw
          case rel => exact ⟨j + 1, by omega, by go_num, hbl⟩
          case measure => simp [intOf]; omega
        · have c1 : ¬ (j : Int) < (k : Int) + 1 + (L.length : Int) := by omega
          go_wp2_with (fail)
          go_ret
          exact ⟨rfl, HBR.out _ hbl⟩
end Sx
end Go.Proofs.YtionocafkaemiaaDoor
namespace Go.Proofs.YtionocafkaemiaaDoor
open Go.RowKit
namespace Sx
abbrev enB (n : Nat) : List Value := [.int .u8 (n : Int)]
theorem EB : Enc enB 1 := ⟨by omega, fun _ => rfl, fun x u h => by
  simp only [List.mem_cons, List.not_mem_nil, or_false] at h
  rw [h]; rfl⟩
theorem EAt.b1 {w : World} {A : Option Addr} {c : Nat} {M : List Nat} (h : EAt enB 1 w A c M) {j : Nat} (hj : j < M.length) : ∃ g o, A = some ⟨g, o, none⟩ ∧ g < w.heap.size ∧ w.cell? ⟨g, o + j, none⟩ = some (.int .u8 (M.getD j 0 : Int)) := by
  obtain ⟨g, o, hA, hg, d⟩ := h.2.2 j (M.getD j 0) (by rw [List.getD_eq_getElem?_getD, List.getElem?_eq_getElem hj]; rfl)
  have := d 0 _ (by omega) rfl
  rw [Nat.mul_one] at this
  exact ⟨g, o, hA, hg, this⟩
/-- The value of a cover. -/
abbrev cv (u most bits : Int) (M : Option Addr) (n c : Nat) : Value := .agg #[.int .i64 u, .int .i64 most, .int .u64 bits, .slice M n c]
theorem four_at {W : World} {B T : Nat} {x0 x1 x2 x3 : Value} (h : W.heap[B]? = some (.cells #[x0, x1, x2, x3] T (0, 0))) : W.cell? ⟨B, 0, none⟩ = some x0 ∧ W.cell? ⟨B, 1, none⟩ = some x1 ∧ W.cell? ⟨B, 2, none⟩ = some x2 ∧ W.cell? ⟨B, 3, none⟩ = some x3 := by
  refine ⟨?_, ?_, ?_, ?_⟩ <;> (rw [cell_of_row _ _ _ _ _ _ h]; rfl)
end Sx
end Go.Proofs.YtionocafkaemiaaDoor
namespace Go.Proofs.YtionocafkaemiaaDoor
open Go.RowKit Go.Lib
namespace Sx
def opP29 : Op := .load 22 (.tmp 28)
def opP64 : Op := .load 2 (.tmp 63)
def opP86 : Op := .load 2 (.tmp 85)
attribute [local go_sem] opP29 opP64 opP86
theorem opP64_eq : Op.load 2 (.tmp 63) = opP64 := rfl
theorem opP86_eq : Op.load 2 (.tmp 85) = opP86 := rfl
theorem opP29_eq : Op.load 22 (.tmp 28) = opP29 := rfl
theorem set_same : ∀ {X : List Sm} {n : Nat} {x : Sm}, sm X n = x → X.set n x = X
  | [], _, _, _ => rfl
  | y :: X, 0, x, h => by
    have h : y = x := h
    rw [h]; rfl
  | y :: X, n + 1, x, h => by
    show y :: X.set n x = _
    rw [set_same (X := X) (n := n) h]
attribute [local irreducible] wpQuiet
set_option maxRecDepth 100000 in
set_option maxHeartbeats 8000000 in
theorem proposed_ok (A : Option Addr) (c : Nat) (L : List Sm) (u most : Int) (bits : Nat) (M : Option Addr) (d : Nat) (more : List Nat) (W : World) (hL : SAt W A c L) (hM : EAt enB 1 W M d more) (hok : OkS L) (hl60 : L.length ≤ 60) (_hb64 : bits < 2 ^ 64) (hm8 : ∀ x, x ∈ more → x < 256) :
    Calls Tryd.prog 23 #[sv A L.length c, cv u most bits M more.length d] W fun e w' => ∃ A' c', e = .returned (sv A' (propS L bits more).length c') ∧ SAt w' A' c' (propS L bits more) ∧ Below W.heap.size W w' := by
  have hml := hM.1
  have hmc := hM.2.1
  unfold maxLen at hmc
  obtain ⟨k1, k2, k3, hb3, hs3⟩ := boxes3 W #[.slice A L.length c] #[.int .i64 u, .int .i64 most, .int .u64 bits, .slice M more.length d] #[.slice none 0 0] 24 46 24
  obtain ⟨U3, hU3⟩ : ∃ U, U = ((W.alloc (.cells #[.slice A L.length c] 24)).alloc (.cells #[.int .i64 u, .int .i64 most, .int .u64 bits, .slice M more.length d] 46)).alloc (.cells #[.slice none 0 0] 24) := ⟨_, rfl⟩
  rw [← hU3] at k1 k2 k3 hb3 hs3
  have hbU := below_box U3 (.cells #[.slice none 0 0] 24)
  have k4 := new_at U3 (.cells #[.slice none 0 0] 24)
  rw [hs3] at k4
  replace k1 := heap_keep k1 hbU
  replace k2 := heap_keep k2 hbU
  replace k3 := heap_keep k3 hbU
  replace hbU := hb3.trans (hbU.mono hb3.size)
  go_enter Tryd.func23, Tryd.ntmps23
  go_upto_region 2 with (fail)
  rw [← hU3]
  obtain ⟨U, hU⟩ : ∃ U, U = U3.alloc (.cells #[.slice none 0 0] 24) := ⟨_, rfl⟩
  rw [← hU] at k1 k2 k3 k4 hbU ⊢
  obtain ⟨r, hr⟩ : ∃ r, r = W.heap.size := ⟨_, rfl⟩
  rw [← hr] at k1 k2 k3 k4 hbU ⊢
  have HU := Lib.hid (And.intro k1 (And.intro k2 (And.intro k3 (And.intro k4 (And.intro hbU (And.intro hL (And.intro hM (And.intro hr (And.intro hok hm8)))))))))
  clear hU3 hU k1 k2 k3 k4 hbU hb3 hs3 hL hM hr hok hm8
  go_wp2_with (fail)
  go_loopw [6] (fun i wr => ∃ (j : Nat) (A' : Option Addr) (c' : Nat), j ≤ L.length ∧ i = .int .i64 (j : Int) ∧ wr.heap[r]? = some (.cells #[.slice A L.length c] 24 (0, 0)) ∧ wr.heap[r + 1]? = some (.cells #[.int .i64 u, .int .i64 most, .int .u64 bits, .slice M more.length d] 46 (0, 0)) ∧ wr.heap[r + 2]? = some (.cells #[.slice none 0 0] 24 (0, 0)) ∧ Boxed wr (r + 3) 24 (.slice A' (propK L bits more j).length c') ∧ OwnE Sx.es 2 wr (r + 4) 49 A' c' (propK L bits more j) ∧ Below r W wr) (fun i _ => L.length - (intOf i).toNat)
  case atStart => exact ⟨0, none, 0, by omega, rfl, HU.out.1, HU.out.2.1, HU.out.2.2.1, HU.out.2.2.2.1, World.ownsRow_nil _ _ _ _, HU.out.2.2.2.2.1⟩
  case round =>
    obtain ⟨j, A', c', hj, rfl, hr0, hr1, hr2, hbx, hown, hbl⟩ := hrel
    have s0 := one_at hr0
    obtain ⟨y0, y1, y2, y3⟩ := four_at hr1
    by_cases hlt : j < L.length
    · have hlti : (j : Int) < (L.length : Int) := by omega
      have hmid := mid_len L bits more j
      obtain ⟨k, hk, hkj⟩ := hmid
      have hX := prop_mid L bits more j rfl hk
      obtain ⟨X, hXe⟩ : ∃ X, X = propK L bits more j := ⟨_, rfl⟩
      have hXl := (prop_len L bits more j).1
      rw [← hXe] at hbx hown hk hX hXl
      have hLr := HU.out.2.2.2.2.2.1.below hbl (Nat.le_of_eq HU.out.2.2.2.2.2.2.2.1.symm)
      obtain ⟨ga, oa, rfl, hga, a0, a1⟩ := hLr.s2 hlt
      have hgr : ga < r := by
        obtain ⟨g', o', e1, hg', _⟩ := HU.out.2.2.2.2.2.1.s2 hlt
        injection e1 with e1; injection e1 with e1 e2
        have := HU.out.2.2.2.2.2.2.2.1
        omega
      obtain ⟨a, ha⟩ : ∃ a, a = (sm L j).a := ⟨_, rfl⟩
      obtain ⟨v, hv⟩ : ∃ v, v = (sm L j).v := ⟨_, rfl⟩
      have hvb := HU.out.2.2.2.2.2.2.2.2.1.ok _ (sm_mem hlt)
      have hv0 := hvb.v0
      have hv1 := hvb.v1
      rw [← ha] at a0
      rw [← hv] at a1 hX hv0 hv1
      obtain ⟨Y, hY⟩ : ∃ Y, Y = midP L bits more j X := ⟨_, rfl⟩
      rw [← hY] at hk hX
      have hYn : Y = if j = 0 ∨ bits / 2 ^ j % 2 = 1 then X ++ [⟨a, newV v more X.length⟩] else X := by rw [hY, ha, hv]; rfl
      have HR := Lib.hid (And.intro hr0 (And.intro hr1 (And.intro hr2 (And.intro hbx (And.intro hown (And.intro hbl (And.intro hX (And.intro hk (And.intro hYn (And.intro hgr hv))))))))))
      have hbz : ((j : Int) == 0 || ((bits : Int) / 2 ^ (j % 60)).tmod 2 == 1) = decide (j = 0 ∨ bits / 2 ^ j % 2 = 1) := by
        rw [Nat.mod_eq_of_lt (show j < 60 by omega)]
        have e1 : ((bits : Int) / 2 ^ j).tmod 2 = ((bits / 2 ^ j % 2 : Nat) : Int) := by
          rw [show ((2 : Int) ^ j) = ((2 ^ j : Nat) : Int) from by simp, ← Int.natCast_ediv]
          generalize bits / 2 ^ j = q
          rw [Int.tmod_eq_emod_of_nonneg (by omega)]; omega
        rw [e1, Bool.eq_iff_iff]
        simp only [Bool.or_eq_true, beq_iff_eq, decide_eq_true_eq]
        omega
      clear hr0 hr1 hr2 hbx hown hbl hX hXe hk hLr hga ha hv hvb hY hYn hgr
      obtain ⟨bz, hbd⟩ : ∃ b, b = decide (j = 0 ∨ bits / 2 ^ j % 2 = 1) := ⟨_, rfl⟩
      rw [← hbd] at hbz
      have HBD := Lib.hid hbd
      clear hbd
      go_upto_region 5 with (fail)
      go_cut [27] from 9 to 95 (fun p wx => p = .bool bz ∧ wx = wr)
      case first =>
        by_cases hj0 : j = 0
        · have hj0i : (j : Int) = 0 := by omega
          have hbt : bz = true := by rw [HBD.out]; exact decide_eq_true (.inl hj0)
          subst hbt
          clear hbz
          go_wp2_with (fail)
          go_meet
          exact ⟨rfl, rfl⟩
        · have hj0i : ¬ (j : Int) = 0 := by omega
          go_wp2_with (fail)
          go_meet
          exact ⟨rfl, rfl⟩
      case rest =>
      obtain ⟨rfl, hwc⟩ := hcut
      obtain ⟨V0, hV0⟩ : ∃ V0, V0 = wc := ⟨_, rfl⟩
      subst hV0
      have hwc := hwc.symm
      subst hwc
      clear hbz
      go_upto_if 27 with (fail)
      go_cut [7] from 9 to 95 (fun p wx => ∃ A2 c2, wx.heap[r]? = some (.cells #[.slice (some ⟨ga, oa, none⟩) L.length c] 24 (0, 0)) ∧ wx.heap[r + 1]? = some (.cells #[.int .i64 u, .int .i64 most, .int .u64 bits, .slice M more.length d] 46 (0, 0)) ∧ wx.heap[r + 2]? = some (.cells #[.slice none 0 0] 24 (0, 0)) ∧ Boxed wx (r + 3) 24 (.slice A2 (k + 1) c2) ∧ OwnE Sx.es 2 wx (r + 4) 49 A2 c2 Y ∧ Below r W wx)
      case first =>
        cases bz
        · have hYX : Y = X := by rw [HR.out.2.2.2.2.2.2.2.2.1, if_neg (of_decide_eq_false HBD.out.symm)]
          have HYX := Lib.hid hYX
          clear hYX
          go_wp2_with (fail)
          go_meet
          refine ⟨A', c', HR.out.1, HR.out.2.1, HR.out.2.2.1, ?_, ?_, HR.out.2.2.2.2.2.1⟩
          · rw [← HR.out.2.2.2.2.2.2.2.1, HYX.out]; exact HR.out.2.2.2.1
          · rw [HYX.out]; exact HR.out.2.2.2.2.1
        · have hYX : Y = X ++ [⟨a, newV v more X.length⟩] := by rw [HR.out.2.2.2.2.2.2.2.2.1, if_pos (of_decide_eq_true HBD.out.symm)]
          have HYX := Lib.hid hYX
          clear hYX
          have hnr := not_row' HR.out.2.2.2.1 (by decide) HR.out.2.2.2.2.1
          have hS2 : ∀ V, Below (r + 3) wr V → Below (r + 3) wr V ∧ V.cell? ⟨r, 0, none⟩ = some (.slice (some ⟨ga, oa, none⟩) L.length c) ∧ V.cell? ⟨ga, oa + j * 2, none⟩ = some (.int .i64 a) ∧ V.cell? ⟨ga, oa + j * 2 + 1, none⟩ = some (.int .i64 v) := fun V hV => ⟨hV, (hV.cell (p := ⟨r, _, none⟩) (by show r < r + 3; omega)).trans s0, (hV.cell (p := ⟨ga, _, none⟩) (by have := HR.out.2.2.2.2.2.2.2.2.2.1; show ga < r + 3; omega)).trans a0, (hV.cell (p := ⟨ga, _, none⟩) (by have := HR.out.2.2.2.2.2.2.2.2.2.1; show ga < r + 3; omega)).trans a1⟩
          have HS2 := Lib.hid hS2
          have s1 := HS2.out wr.drew (below_drew (Below.refl _ _))
          have x0 := HR.out.2.2.2.1.cell
          obtain ⟨wO, hwO⟩ : ∃ wO, wO = (wr.alloc (.cells #[.int .i64 a, .int .i64 v] 49)).drew := ⟨_, rfl⟩
          have hplt := lt_of_heap HR.out.2.2.2.1
          have hbO : Below wr.heap.size wr wO := by rw [hwO]; exact below_drew (below_box wr _)
          have x1 := cell_keep2 hbO x0
          have hbxO : Boxed wO (r + 3) 24 (.slice A' X.length c') := (hbO.block _ hplt).trans HR.out.2.2.2.1
          have hrowO : OwnE Sx.es 2 wO (r + 4) 49 A' c' X := row_below HR.out.2.2.2.2.1 hbO
          have hone : EAt Sx.es 2 wO (some ⟨wr.heap.size, 0, none⟩) 1 [(⟨a, v⟩ : Sm)] := by rw [hwO]; exact oneS wr _ ⟨a, v⟩
          have hO2 : Below (r + 3) wr wO := hbO.mono (Nat.le_of_lt hplt)
          have hszO := hbO.size
          rw [hwO] at x1
          obtain ⟨X2, hX2⟩ : ∃ X2, X2 = X ++ [(⟨a, v⟩ : Sm)] := ⟨_, rfl⟩
          have hX2l : X2.length = X.length + 1 := by rw [hX2, List.length_append, List.length_singleton]
          obtain ⟨nX, hnX⟩ : ∃ n, n = X.length := ⟨_, rfl⟩
          have HN := Lib.hid (And.intro hX2 (And.intro hbxO (And.intro hrowO (And.intro hnr (And.intro hone (And.intro hO2 (And.intro hwO (And.intro hszO (And.intro hplt (And.intro hX2l hnX))))))))))
          have hlti : (j : Int) < (L.length : Int) := by omega
          clear hS2 hbO hbxO hrowO hone hO2 hszO hplt hwO hnr hX2 hX2l hnX a0 a1 y0 y1 y2 y3 s0
          go_upto_region 6 with (fail)
          rw [opP29_eq]
          go_region_held3 (fun w' => Below (r + 3) wr w' ∧ w'.cell? ⟨r, 0, none⟩ = some (.slice (some ⟨ga, oa, none⟩) L.length c) ∧ w'.cell? ⟨ga, oa + j * 2, none⟩ = some (.int .i64 a) ∧ w'.cell? ⟨ga, oa + j * 2 + 1, none⟩ = some (.int .i64 v))
            (first | assumption | (rw [← HN.out.2.2.2.2.2.2.1]; exact HS2.out _ HN.out.2.2.2.2.2.1) | exact HS2.out _ H8.out.2.1 | exact HS2.out _ (H8.out.2.1.setCell (Nat.le_refl _) _))
            (first | (rw [← HN.out.2.2.2.2.2.2.1]; refine step_e2 ES Tryd.underlying22 sample_info (by decide) (by rfl) (.tmp 29) (.tmp 35) (by rfl) (r + 4) A' c' X (by rfl) HN.out.2.2.1 (some ⟨wr.heap.size, 0, none⟩) 1 [(⟨a, v⟩ : Sm)] (by rfl) HN.out.2.2.2.2.1 (fun h => by cases h) (by simp; omega) (by have h1 := HN.out.2.2.2.2.2.2.2.1; have h2 := HN.out.2.2.2.2.2.2.2.2.1; omega) ?_
                      intro A8 c8 w8 h8 hb8 hk8
                      have hbx8 := (hk8 (r + 3) (by have h1 := HN.out.2.2.2.2.2.2.2.1; have h2 := HN.out.2.2.2.2.2.2.2.2.1; omega) HN.out.2.2.2.1).trans HN.out.2.1
                      have z0 := one_at hbx8
                      have zf := frozen_pl hbx8 0
                      rw [← HN.out.1] at h8 ⊢
                      have H8 := Lib.hid (And.intro h8 (And.intro (HN.out.2.2.2.2.2.1.trans (hb8.mono (Nat.le_succ _))) hbx8))
                      clear h8 hbx8 hb8 hk8))
          all_goals
            go_upto_region 7 with (fail)
            obtain ⟨V6, hV6⟩ : ∃ V, V = w8.setCell ⟨r + 1 + 1 + 1, 0, none⟩ (.slice A8 X2.length c8) := ⟨_, rfl⟩
            have hbx6 : Boxed V6 (r + 3) 24 (.slice A8 X2.length c8) := by rw [hV6]; exact Boxed.set _ H8.out.2.2
            have hrow6 : OwnE Sx.es 2 V6 (r + 4) 49 A8 c8 X2 := by rw [hV6]; exact rowE_far H8.out.1 (not_row' H8.out.2.2 (by decide) H8.out.1) _ _
            have hbl6 : Below (r + 3) wr V6 := by rw [hV6]; exact H8.out.2.1.setCell (p := ⟨r + 3, 0, none⟩) (Nat.le_refl _) _
            rw [← hV6]
            clear hV6
            have k0 := (hbl6.block r (by omega)).trans HR.out.1
            have k1 := (hbl6.block (r + 1) (by omega)).trans HR.out.2.1
            have k2 := (hbl6.block (r + 2) (by omega)).trans HR.out.2.2.1
            have hW6 := HR.out.2.2.2.2.2.1.trans (hbl6.mono (by omega))
            obtain ⟨y0, y1, y2, y3⟩ := four_at k1
            have z3 := hbx6.cell
            have hnl : nX < X2.length := by rw [HN.out.2.2.2.2.2.2.2.2.2.1, HN.out.2.2.2.2.2.2.2.2.2.2]; omega
            have hsx : sm X2 nX = ⟨a, v⟩ := by rw [HN.out.1, HN.out.2.2.2.2.2.2.2.2.2.2]; exact sm_app_last _ _
            obtain ⟨g8, rfl, hg8, hset8, hfz8, c80, c81⟩ := hrow6.setv hnl (newV v more nX)
            rw [hsx] at c80 c81 hset8
            dsimp only at c80 c81 hset8
            have hXn : X2.set nX ⟨a, newV v more nX⟩ = Y := by rw [HN.out.1, HN.out.2.2.2.2.2.2.2.2.2.2, set_last, HYX.out]
            rw [hXn] at hset8
            have hX2n : X2.length = nX + 1 := by rw [HN.out.2.2.2.2.2.2.2.2.2.1, HN.out.2.2.2.2.2.2.2.2.2.2]
            rw [hX2n] at z3
            have hYk : k = nX := by have h1 := HR.out.2.2.2.2.2.2.2.1; rw [← hXn, List.length_set, hX2n] at h1; omega
            have hn60 : nX ≤ 60 := by rw [HN.out.2.2.2.2.2.2.2.2.2.2]; omega
            have H6 := Lib.hid (And.intro hbx6 (And.intro hrow6 (And.intro hset8 (And.intro k0 (And.intro k1 (And.intro k2 (And.intro hW6 (And.intro hYk (And.intro hX2n (And.intro hsx hXn))))))))))
            clear hbx6 hrow6 hset8 k0 k1 k2 hW6 hYk hsx hXn hnl hbl6 HS2 s1 x0 x1 z0 zf
            rw [hX2n]
            clear hX2n
            have q1 : IntKind.i64.wrap ((nX : Int) + 1 - 1) = (nX : Int) := by rw [IntWalk.i64_in _ (by omega)]; omega
            have q3 : IntKind.i64.wrap (nX : Int) = (nX : Int) := IntWalk.i64_in _ (by omega)
            have q4 : (nX : Int) < (nX : Int) + 1 := by omega
            have q5 : (0 : Int) ≤ (nX : Int) := by omega
            by_cases hc1 : nX < more.length
            · have hc1i : (nX : Int) < (more.length : Int) := by omega
              by_cases hc2 : v < 999999999700
              · obtain ⟨gm, om, hMm, hgm, mb⟩ := (HU.out.2.2.2.2.2.2.1.below H6.out.2.2.2.2.2.2.1 (Nat.le_of_eq HU.out.2.2.2.2.2.2.2.1.symm)).b1 hc1
                obtain ⟨gm', om', e, hgm', _⟩ := HU.out.2.2.2.2.2.2.1.b1 hc1
                rw [hMm] at e
                injection e with e; injection e with e1 e2 _
                subst e1; subst e2
                obtain ⟨b, hb⟩ : ∃ b, b = more.getD nX 0 := ⟨_, rfl⟩
                have hb8 : b < 256 := by
                  rw [hb]
                  exact HU.out.2.2.2.2.2.2.2.2.2 _ (by rw [List.getD_eq_getElem?_getD, List.getElem?_eq_getElem hc1]; exact List.getElem_mem hc1)
                rw [← hb] at mb
                have hnv : newV v more nX = v + (b : Int) := by unfold newV; rw [if_pos ⟨hc1, hc2⟩, ← hb]
                have hgmr : gm < r := by rw [HU.out.2.2.2.2.2.2.2.1]; exact hgm'
                rw [hMm] at y3
                have HNV := Lib.hid (And.intro hnv (And.intro hMm hb))
                subst hMm
                clear hnv hb hgm hgm'
                have hS9 : ∀ V, Below (r + 4) V6 V → Below (r + 4) V6 V ∧ V.cell? ⟨r + 3, 0, none⟩ = some (.slice (some ⟨g8, 0, none⟩) (nX + 1) c8) ∧ V.cell? ⟨r + 1, 3, none⟩ = some (.slice (some ⟨gm, om, none⟩) more.length d) ∧ V.cell? ⟨gm, om + nX, none⟩ = some (.int .u8 (b : Int)) := fun V hV => ⟨hV, (hV.cell (p := ⟨r + 3, _, none⟩) (by show r + 3 < r + 4; omega)).trans z3, (hV.cell (p := ⟨r + 1, _, none⟩) (by show r + 1 < r + 4; omega)).trans y3, (hV.cell (p := ⟨gm, _, none⟩) (by show gm < r + 4; omega)).trans mb⟩
                have HS9 := Lib.hid hS9
                clear hS9
                go_upto_region 9 with (fail)
                have s9 := HS9.out V6.drew (below_drew (Below.refl _ _))
                have hb9 : Below (r + 4) V6 (V6.setCell ⟨g8, nX * 2 + 1, none⟩ (.int .i64 (v + (b : Int)))) := (Below.refl _ _).setCell (p := ⟨g8, _, none⟩) hg8 _
                have qv : IntKind.i64.wrap (v + (b : Int)) = v + (b : Int) := IntWalk.i64_in _ (by omega)
                have qb : IntKind.i64.wrap (b : Int) = (b : Int) := IntWalk.i64_in _ (by omega)
                rw [opP64_eq]
                go_region_held3 (fun w' => Below (r + 4) V6 w' ∧ w'.cell? ⟨r + 3, 0, none⟩ = some (.slice (some ⟨g8, 0, none⟩) (nX + 1) c8) ∧ w'.cell? ⟨r + 1, 3, none⟩ = some (.slice (some ⟨gm, om, none⟩) more.length d) ∧ w'.cell? ⟨gm, om + nX, none⟩ = some (.int .u8 (b : Int)))
                  (first | assumption | exact HS9.out _ (below_drew (Below.refl _ _)) | exact HS9.out _ hb9 | exact HS9.out _ (below_drew hb9))
                  (first | (fail))
                all_goals
                  (try go_wp2_with (fail))
                  go_meet
                  refine ⟨some ⟨g8, 0, none⟩, c8, (hb9.block r (by omega)).trans H6.out.2.2.2.1, (hb9.block (r + 1) (by omega)).trans H6.out.2.2.2.2.1, (hb9.block (r + 2) (by omega)).trans H6.out.2.2.2.2.2.1, ?_, ?_, H6.out.2.2.2.2.2.2.1.trans ((below_drew hb9).mono (show r ≤ r + 4 by omega))⟩
                  · have h3 := (hb9.block (r + 3) (by omega)).trans H6.out.1
                    rw [H6.out.2.2.2.2.2.2.2.2.1] at h3
                    rw [H6.out.2.2.2.2.2.2.2.1]
                    exact h3
                  · have h4 := H6.out.2.2.1
                    rw [HNV.out.1] at h4
                    exact h4
              · have hnv : newV v more nX = v := by unfold newV; rw [if_neg (fun h => hc2 h.2)]
                have HNV := Lib.hid hnv
                clear hnv
                go_wp2_with (fail)
                go_meet
                have hYX2 : Y = X2 := by rw [← H6.out.2.2.2.2.2.2.2.2.2.2, HNV.out]; exact set_same H6.out.2.2.2.2.2.2.2.2.2.1
                refine ⟨some ⟨g8, 0, none⟩, c8, H6.out.2.2.2.1, H6.out.2.2.2.2.1, H6.out.2.2.2.2.2.1, ?_, ?_, H6.out.2.2.2.2.2.2.1⟩
                · rw [H6.out.2.2.2.2.2.2.2.1, ← H6.out.2.2.2.2.2.2.2.2.1]; exact H6.out.1
                · rw [hYX2]; exact H6.out.2.1
            · have hc1i : ¬ (nX : Int) < (more.length : Int) := by omega
              have hnv : newV v more nX = v := by unfold newV; rw [if_neg (fun h => hc1 h.1)]
              have HNV := Lib.hid hnv
              clear hnv
              go_wp2_with (fail)
              go_meet
              have hYX2 : Y = X2 := by rw [← H6.out.2.2.2.2.2.2.2.2.2.2, HNV.out]; exact set_same H6.out.2.2.2.2.2.2.2.2.2.1
              refine ⟨some ⟨g8, 0, none⟩, c8, H6.out.2.2.2.1, H6.out.2.2.2.2.1, H6.out.2.2.2.2.2.1, ?_, ?_, H6.out.2.2.2.2.2.2.1⟩
              · rw [H6.out.2.2.2.2.2.2.2.1, ← H6.out.2.2.2.2.2.2.2.2.1]; exact H6.out.1
              · rw [hYX2]; exact H6.out.2.1
      case rest =>
      obtain ⟨A2, c2, k0, k1, k2, hbx, hrow, hbl⟩ := hcut
      obtain ⟨V, hV⟩ : ∃ V, V = wc := ⟨_, rfl⟩
      subst hV
      have hYl : Y.length = k + 1 := HR.out.2.2.2.2.2.2.2.1
      have hky : k < Y.length := by omega
      obtain ⟨nv, hnv⟩ : ∃ nv, nv = max (sm Y k).v v := ⟨_, rfl⟩
      obtain ⟨g2, rfl, hg2, hset2, hfz2, c20, c21⟩ := hrow.setv hky nv
      obtain ⟨yv, hyv⟩ : ∃ yv, yv = (sm Y k).v := ⟨_, rfl⟩
      rw [← hyv] at hnv c21
      have hZ : propK L bits more (j + 1) = Y.set k ⟨(sm Y k).a, nv⟩ := by rw [HR.out.2.2.2.2.2.2.1, ← hyv, hnv]
      rw [← hZ] at hset2
      have hZl : (propK L bits more (j + 1)).length = k + 1 := by rw [hZ, List.length_set, hYl]
      have qmx : (if yv < v then v else yv) = nv := by rw [hnv]; split <;> omega
      have qmx2 : max yv v = nv := hnv.symm
      have z3 := hbx.cell
      have s0 := one_at k0
      have a1 : V.cell? ⟨ga, oa + j * 2 + 1, none⟩ = some (.int .i64 v) := by
        obtain ⟨g', o', e, _, _, d1⟩ := (HU.out.2.2.2.2.2.1.below hbl (Nat.le_of_eq HU.out.2.2.2.2.2.2.2.1.symm)).s2 hlt
        injection e with e; injection e with e1 e2 _
        subst e1; subst e2
        rw [d1, ← HR.out.2.2.2.2.2.2.2.2.2.2]
      have H7 := Lib.hid (And.intro k0 (And.intro k1 (And.intro k2 (And.intro hbx (And.intro hset2 (And.intro hbl hZl))))))
      have hgr := HR.out.2.2.2.2.2.2.2.2.2.1
      have hS9 : ∀ X, Below (r + 4) V X → Below (r + 4) V X ∧ X.cell? ⟨r + 3, 0, none⟩ = some (.slice (some ⟨g2, 0, none⟩) (k + 1) c2) ∧ X.cell? ⟨r, 0, none⟩ = some (.slice (some ⟨ga, oa, none⟩) L.length c) ∧ X.cell? ⟨ga, oa + j * 2 + 1, none⟩ = some (.int .i64 v) := fun X hX => ⟨hX, (hX.cell (p := ⟨r + 3, _, none⟩) (by show r + 3 < r + 4; omega)).trans z3, (hX.cell (p := ⟨r, _, none⟩) (by show r < r + 4; omega)).trans s0, (hX.cell (p := ⟨ga, _, none⟩) (by show ga < r + 4; omega)).trans a1⟩
      have HS9 := Lib.hid hS9
      have hk60 : k ≤ 60 := by omega
      clear hS9 k0 k1 k2 hbx hset2 hbl hZl hZ hnv hyv hYl hky c20 hgr hrow s0
      have q1 : IntKind.i64.wrap ((k : Int) + 1 - 1) = (k : Int) := by rw [IntWalk.i64_in _ (by omega)]; omega
      have q3 : IntKind.i64.wrap (k : Int) = (k : Int) := IntWalk.i64_in _ (by omega)
      have q4 : (k : Int) < (k : Int) + 1 := by omega
      have q5 : (0 : Int) ≤ (k : Int) := by omega
      go_upto_region 11 with (fail)
      have s9 := HS9.out V.drew (below_drew (Below.refl _ _))
      have hb9 : Below (r + 4) V (V.setCell ⟨g2, k * 2 + 1, none⟩ (.int .i64 nv)) := (Below.refl _ _).setCell (p := ⟨g2, _, none⟩) hg2 _
      rw [opP86_eq]
      go_region_held3 (fun w' => Below (r + 4) V w' ∧ w'.cell? ⟨r + 3, 0, none⟩ = some (.slice (some ⟨g2, 0, none⟩) (k + 1) c2) ∧ w'.cell? ⟨r, 0, none⟩ = some (.slice (some ⟨ga, oa, none⟩) L.length c) ∧ w'.cell? ⟨ga, oa + j * 2 + 1, none⟩ = some (.int .i64 v))
        (first | assumption | exact HS9.out _ (below_drew (Below.refl _ _)) | exact HS9.out _ hb9 | exact HS9.out _ (below_drew hb9))
        (first | (fail))
      all_goals
        go_wp2_with (fail)
        go_roundw
        case rel =>
          refine ⟨j + 1, some ⟨g2, 0, none⟩, c2, by omega, by go_num, (hb9.block r (by omega)).trans H7.out.1, (hb9.block (r + 1) (by omega)).trans H7.out.2.1, (hb9.block (r + 2) (by omega)).trans H7.out.2.2.1, ?_, H7.out.2.2.2.2.1, H7.out.2.2.2.2.2.1.trans ((below_drew hb9).mono (show r ≤ r + 4 by omega))⟩
          have h3 := (hb9.block (r + 3) (by omega)).trans H7.out.2.2.2.1
          rw [H7.out.2.2.2.2.2.2]
          exact h3
        case measure => simp [intOf]; omega
    · obtain rfl : j = L.length := by omega
      obtain ⟨X, hXe⟩ : ∃ X, X = propK L bits more L.length := ⟨_, rfl⟩
      rw [← hXe] at hbx hown
      have t0 := hbx.cell
      have q1 := one_at hr2
      have hfr := frozen_pl hr2 0
      have hset : (wr.setCell ⟨r + 2, 0, none⟩ (.slice A' X.length c')).heap[r + 2]? = some (.cells #[.slice A' X.length c'] 24 (0, 0)) := Boxed.set _ hr2
      have hErr : SAt (wr.setCell ⟨r + 2, 0, none⟩ (.slice A' X.length c')) A' c' X := (OwnE.at ES (rowE_far hown (p := r + 2) (fun e => by have := (OwnE.at ES hown).2 (r + 2) e; omega) (r + 2) 0)).1
      have HE := Lib.hid (And.intro hset (And.intro hErr (And.intro (hbl.setCell (p := ⟨r + 2, 0, none⟩) (by show r ≤ r + 2; omega) (.slice A' X.length c')) (And.intro HU.out.2.2.2.2.2.2.2.1 hXe))))
      have hri : ¬ ((L.length : Int) < (L.length : Int)) := by omega
      obtain ⟨nX, hnX⟩ : ∃ nX, nX = X.length := ⟨_, rfl⟩
      rw [← hnX] at t0 HE hbx
      have HNX := Lib.hid hnX
      clear hnX hset hErr hbl hown HU hbx hr0 hr1 hr2 hXe y0 y1 y2 y3
      go_wp2_with (fail)
      refine bodyPost_ret (results_cell_row rfl _ _ (r + 2) 24 #[.slice A' nX c'] (0, 0) _ rfl HE.out.1 Tryd.underlying24 rfl series_size) rfl ⟨A', c', by rw [show propS L bits more = X from HE.out.2.2.2.2.symm, ← HNX.out], by rw [show propS L bits more = X from HE.out.2.2.2.2.symm]; exact HE.out.2.1, ?_⟩
      rw [← HE.out.2.2.2.1]
      exact HE.out.2.2.1
end Sx
end Go.Proofs.YtionocafkaemiaaDoor
