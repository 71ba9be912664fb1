/- SlabsDisjoint: fits. SlabsBack: the walk. SlabsBack: all shapes; the arguments. SlabsDisjoint: the walk. -/
import Derived.Test.YtlknhbcambdccaaK26
import Derived.Test.YtlknhbcambdccaaK25
import Derived.Test.YtlknhbcambdccaaK13
import Derived.Lib.SmallJoins
namespace Go.Proofs.Ytlknhbcambdccaa
open Go.RowKit
namespace Sl
open Bu

/-- A slab's block has all of the bytes of an object. -/
def hasB (size y a : Nat) (x : Slb) : Bool := decide (64 * x.pg ≤ a ∧ a + size ≤ 64 * x.pg + y)
def anyB (size y a : Nat) (l : List Slb) : Bool := l.any (hasB size y a)
theorem anyB_take {size y a : Nat} {l : List Slb} {k : Nat} {x : Slb} (hx : l[k]? = some x) : anyB size y a (l.take (k + 1)) = (anyB size y a (l.take k) || hasB size y a x) := by
  obtain ⟨hk, he⟩ := List.getElem?_eq_some_iff.1 hx
  unfold anyB
  rw [List.take_succ_eq_append_getElem hk, he, List.any_append]
  simp

set_option maxRecDepth 100000 in
set_option maxHeartbeats 8000000 in
theorem fits_ok {w W : World} {own : Own?} {c b : Nat} {C : Ca} {N : Nat} {L : List Blk} (h : Mine w own c b C N L W) (a : Nat) (ha : IsObj C a) (A : Option Addr) (cl : Nat) (live : List Nat) (hl : I64At W A cl live) (hlv : ∀ l ∈ live, IsObj C l ∧ a ≠ l) (P : Nat) (keep : Int) :
    Calls Try.prog 23 #[.pointer (some ⟨c, 0, none⟩), .slice A live.length cl, .int .i64 (a : Int), .agg #[.int .u8 (P : Int), .int .i64 (C.size : Int), .int .i64 (C.order : Int), .int .i64 keep]] W fun e W' => e = .returned (.bool true) ∧ Mine w own c b C N L W' ∧ Below W.heap.size W W' := by
  obtain ⟨h8, ha66, hin⟩ := obj_in h.held.ok ha
  have hsz1 := h.held.ok.sz.2.1
  have hsz8 := h.held.ok.sz.1
  have hod := h.held.ok.od
  have hsl := ok_len h.held.ok
  have hfar : ∀ l ∈ live, l < 66000 ∧ (a + C.size ≤ l ∨ l + C.size ≤ a) := fun l hm => ⟨(obj_in h.held.ok (hlv l hm).1).2.1, obj_far h.held.ok ha (hlv l hm).1 (hlv l hm).2⟩
  have hpg : ∀ x ∈ C.sl, x.pg ≤ 1024 := fun x hx => by
    have h2 : x.pg + 2 ^ C.order ≤ 1024 := (st_le h.held.ok.st _ (h.held.ok.giv x hx)).2
    omega
  obtain ⟨y, hy⟩ : ∃ y : Nat, y = 64 * 2 ^ C.order := ⟨_, rfl⟩
  have hsh : wrap64 ((64 : Int) * 2 ^ C.order) = (y : Int) := by rw [hy]; exact shl_w64 _ hod
  have hsh2 : wrap64 ((64 : Int) * 2 ^ min C.order 64) = (y : Int) := by rw [show min C.order 64 = C.order by omega]; exact hsh
  have hy2 : y ≤ 1024 := by
    have : 2 ^ C.order ≤ 2 ^ 4 := Nat.pow_le_pow_right (by decide) hod
    omega
  have hany : anyB C.size y a C.sl = true := by
    obtain ⟨x, hx, h1, h2⟩ := hin
    unfold anyB hasB
    rw [List.any_eq_true]
    exact ⟨x, hx, by rw [decide_eq_true_eq, hy]; exact ⟨h1, h2⟩⟩
  obtain ⟨W1, hW1⟩ : ∃ W1, W1 = W.alloc (.cells #[.int .u8 (P : Int), .int .i64 (C.size : Int), .int .i64 (C.order : Int), .int .i64 keep] 42) := ⟨_, rfl⟩
  have hb1 : Below W.heap.size W W1 := by rw [hW1]; exact below_box W _
  have hB1 : W1.heap[W.heap.size]? = some (.cells #[.int .u8 (P : Int), .int .i64 (C.size : Int), .int .i64 (C.order : Int), .int .i64 keep] 42 (0, 0)) := by rw [hW1, heapAlloc, if_pos rfl]
  have hl1 := hl.below hb1
  have hll := hl.len
  have hlc := hl.cap
  unfold maxLen at hlc
  have b1 : W1.cell? ⟨W.heap.size, 1, none⟩ = some (.int .i64 (C.size : Int)) := by rw [cell_of_row _ _ _ _ _ _ hB1]; rfl
  obtain ⟨s, hs⟩ : ∃ s, s = C.size := ⟨_, rfl⟩
  obtain ⟨o, ho⟩ : ∃ o, o = C.order := ⟨_, rfl⟩
  obtain ⟨n, hn⟩ : ∃ n, n = C.sl.length := ⟨_, rfl⟩
  have hM1 := h.step hb1
  have HM1 := Lib.hid hM1
  have HX := Lib.hid (And.intro hb1 (And.intro hB1 (And.intro hl1 (And.intro hfar (And.intro hpg (And.intro hany (And.intro hn (And.intro hs ho))))))))
  rw [← hs, ← ho] at hW1
  have HW := Lib.hid hW1
  have hmod : (a : Int) % 8 = 0 := by omega
  have e0a : (0 : Int) ≤ (a : Int) := by omega
  have hsum : IntKind.i64.wrap ((a : Int) + (s : Int)) = (a : Int) + (s : Int) := IntWalk.i64_in _ (by omega)
  obtain ⟨B1, hBe⟩ : ∃ B1, B1 = W.heap.size := ⟨_, rfl⟩
  have HB := Lib.hid hBe
  rw [← hBe] at b1
  rw [← hs] at b1 hsz1 hsz8 ⊢
  rw [← ho] at hsh hsh2 hod ⊢
  rw [← hn] at hsl
  have e0o : (0 : Int) ≤ (o : Int) := by omega
  clear hl1 hfar hpg hany hb1 hB1 hW1 hM1 hl hlv ha hin h hs ho hn hBe hy
  go_enter Try.func23, Try.ntmps23
  go_wp2_with (fail)
  rw [← HW.out, ← HB.out]
  go_loopw [9] (fun i wr => ∃ k : Nat, k ≤ live.length ∧ i = .int .i64 (k : Int) ∧ ∃ d, wr = W1.drewN d) (fun i _ => live.length - (intOf i).toNat)
  case atStart => exact ⟨0, Nat.zero_le _, rfl, 0, rfl⟩
  case round =>
    obtain ⟨k, hk, rfl, d, hwr⟩ := hrel
    have e0 : (0 : Int) ≤ (k : Int) := by omega
    have b1r : wr.cell? ⟨B1, 1, none⟩ = some (.int .i64 (s : Int)) := by rw [hwr]; exact b1
    have hkk : k < live.length → IntKind.i64.wrap ((k : Int) + 1) = ((k + 1 : Nat) : Int) := fun hlt => by rw [IntWalk.i64_in _ (by omega)]; rfl
    by_cases hlt : k < live.length
    · have e1 : (k : Int) < (live.length : Int) := by omega
      replace hkk := hkk hlt
      obtain ⟨l, hlk⟩ : ∃ l, live[k]? = some l := ⟨_, List.getElem?_eq_getElem hlt⟩
      obtain ⟨g, og, rfl, hg, d0⟩ := HX.out.2.2.1.at_ k l hlk
      replace d0 : wr.cell? ⟨g, og + k, none⟩ = some (.int .i64 (l : Int)) := by rw [hwr]; exact d0
      obtain ⟨hl66, hf⟩ := HX.out.2.2.2.1 l (List.mem_of_getElem? hlk)
      rw [← HX.out.2.2.2.2.2.2.2.1] at hf
      have hlsum : IntKind.i64.wrap ((l : Int) + (s : Int)) = (l : Int) + (s : Int) := IntWalk.i64_in _ (by omega)
      have HR := Lib.hid hwr
      clear hwr hlk
      rcases hf with hf | hf
      · have t1 : (a : Int) < (l : Int) + (s : Int) := by omega
        have t2 : ¬ (l : Int) < (a : Int) + (s : Int) := by omega
        have t3 : decide ((l : Int) < (a : Int) + (s : Int)) = false := by simpa using t2
        have t4 : decide ((a : Int) < (l : Int) + (s : Int)) = true := by simpa using t1
        go_wp2_with (fail)
        go_quiet (fail)
        go_wp2
        go_roundw
        case rel => exact ⟨k + 1, by omega, by go_num, _, by rw [HR.out]; exact World.drewN_drewN ..⟩
        case measure => simp [intOf]; omega
      · have t2 : ¬ (a : Int) < (l : Int) + (s : Int) := by omega
        have t3 : decide ((a : Int) < (l : Int) + (s : Int)) = false := by simpa using t2
        go_wp2_with (fail)
        go_quiet (fail)
        go_wp2
        go_roundw
        case rel => exact ⟨k + 1, by omega, by go_num, _, by rw [HR.out]; exact World.drewN_drewN ..⟩
        case measure => simp [intOf]; omega
    · have e1 : ¬ (k : Int) < (live.length : Int) := by omega
      clear hkk
      have HR := Lib.hid hwr
      have hSl : Calls Try.prog 14 #[.pointer (some ⟨c, 0, none⟩)] wr fun e W' => (∃ A cp, e = .returned (.tuple #[.slice A C.sl.length cp, .int .i64 0]) ∧ ViewAt W' A cp C.sl) ∧ Mine w own c b C N L W' ∧ Below W1.heap.size W1 W' := by
        have hM := HM1.out.step (below_drew W1 d)
        rw [← hwr] at hM
        refine hM.slabs.mono ?_
        rintro e W' ⟨⟨A, cp, he, hr⟩, hM', hb'⟩
        refine ⟨⟨A, cp, he, view_of hr⟩, hM', ?_⟩
        have hbd := below_drew W1 d
        rw [← hwr] at hbd
        exact below_step hbd hb' (Nat.le_refl _)
      rw [← HX.out.2.2.2.2.2.2.1] at hSl
      have HSl := Lib.hid hSl
      clear hSl hwr
      go_wp2_with (go_at_call 14; fail)
      refine HSl.out.mono ?_
      rintro _ W2 ⟨⟨A2, cp, rfl, hV⟩, hM2, hb2⟩
      have hcp := hV.1
      have hcm := hV.2.1
      unfold maxLen at hcm
      rw [← HX.out.2.2.2.2.2.2.1] at hcp
      have c1 := (hb2.cell (p := ⟨B1, 1, none⟩) (World.block_lt_of_cell? W1 _ b1)).trans b1
      have hB12 := (hb2.block B1 (World.block_lt_of_cell? W1 _ b1))
      have c2 : W2.cell? ⟨B1, 2, none⟩ = some (.int .i64 (o : Int)) := by
        have hb := HX.out.2.1
        rw [← HB.out] at hb
        rw [cell_of_row _ _ _ _ _ _ (hB12.trans hb), ← HX.out.2.2.2.2.2.2.2.2]; rfl
      have H2 := Lib.hid (And.intro hV.2.2 (And.intro hM2 hb2))
      clear hV hM2 hb2 hB12 HSl b1r b1
      go_wp2_with (fail)
      go_loop [12, 13, 14] (fun v i _ => ∃ k : Nat, k ≤ n ∧ i = .int .i64 (k : Int) ∧ v = .bool (anyB s y a (C.sl.take k))) (fun _ i _ => n - (intOf i).toNat)
      case atStart => exact ⟨0, Nat.zero_le _, rfl, rfl⟩
      case round =>
        obtain ⟨k2, hk2, rfl, rfl⟩ := hrel
        have e2 : (0 : Int) ≤ (k2 : Int) := by omega
        by_cases hlt2 : k2 < n
        · have e3 : (k2 : Int) < (n : Int) := by omega
          obtain ⟨x, hx⟩ : ∃ x, C.sl[k2]? = some x := ⟨_, List.getElem?_eq_getElem (by have := HX.out.2.2.2.2.2.2.1; omega)⟩
          obtain ⟨g2, rfl, d0, _⟩ := H2.out.1 k2 x hx
          have hxp := HX.out.2.2.2.2.1 x (List.mem_of_getElem? hx)
          have hkk2 : IntKind.i64.wrap ((k2 : Int) + 1) = ((k2 + 1 : Nat) : Int) := by rw [IntWalk.i64_in _ (by omega)]; rfl
          have hnx := anyB_take (size := s) (y := y) (a := a) hx
          obtain ⟨pr, hpr⟩ : ∃ pr, pr = anyB s y a (C.sl.take k2) := ⟨_, rfl⟩
          obtain ⟨pg, hpg⟩ : ∃ pg, pg = x.pg := ⟨_, rfl⟩
          have hm64 : IntKind.i64.wrap ((pg : Int) * 64) = (pg : Int) * 64 := IntWalk.i64_in _ (by omega)
          have hpy : IntKind.i64.wrap ((pg : Int) * 64 + (y : Int)) = (pg : Int) * 64 + (y : Int) := IntWalk.i64_in _ (by omega)
          unfold hasB at hnx
          rw [← hpg] at d0 hnx
          rw [← hpr] at hnx ⊢
          have HNx := Lib.hid hnx
          clear hnx hpr hpg hx
          cases pr with
          | true =>
            go_wp2
            go_round
            case rel => exact ⟨k2 + 1, by omega, by go_num, by rw [HNx.out]; rfl⟩
            case measure => simp [intOf]; omega
          | false =>
            by_cases h1 : (pg : Int) * 64 ≤ (a : Int)
            · by_cases h2 : (a : Int) + (s : Int) ≤ (pg : Int) * 64 + (y : Int)
              · have hv : decide (64 * pg ≤ a ∧ a + s ≤ 64 * pg + y) = true := decide_eq_true ⟨by omega, by omega⟩
                have HV := Lib.hid hv
                clear hv
                go_wp2
                go_round
                case rel => exact ⟨k2 + 1, by omega, by go_num, by rw [HNx.out, HV.out]; rfl⟩
                case measure => simp [intOf]; omega
              · have hv : decide (64 * pg ≤ a ∧ a + s ≤ 64 * pg + y) = false := decide_eq_false fun h => h2 (by omega)
                have HV := Lib.hid hv
                clear hv
                go_wp2
                go_round
                case rel => exact ⟨k2 + 1, by omega, by go_num, by rw [HNx.out, HV.out]; rfl⟩
                case measure => simp [intOf]; omega
            · have hv : decide (64 * pg ≤ a ∧ a + s ≤ 64 * pg + y) = false := decide_eq_false fun h => h1 (by omega)
              have HV := Lib.hid hv
              clear hv
              go_wp2
              go_round
              case rel => exact ⟨k2 + 1, by omega, by go_num, by rw [HNx.out, HV.out]; rfl⟩
              case measure => simp [intOf]; omega
        · obtain rfl : k2 = n := by omega
          have e3 : ¬ ((k2 : Nat) : Int) < (k2 : Int) := by omega
          have hall : anyB s y a (C.sl.take k2) = true := by
            rw [HX.out.2.2.2.2.2.2.1, List.take_length, HX.out.2.2.2.2.2.2.2.1]
            exact HX.out.2.2.2.2.2.1
          rw [hall]
          clear hall
          go_wp2
          go_ret
          exact ⟨rfl, H2.out.2.1, below_step HX.out.1 H2.out.2.2 (Nat.le_refl _)⟩
end Sl
end Go.Proofs.Ytlknhbcambdccaa
namespace Go.Proofs.Ytlknhbcambdccaa
open Go.RowKit
namespace Sl
open Bu

/-- Numbers of 8 bits. -/
def U8At (w : World) (A : Option Addr) (c : Nat) (T : List Nat) : Prop :=
  T.length ≤ c ∧ c ≤ maxLen ∧ ∀ (j x : Nat), T[j]? = some x → ∃ g o, A = some ⟨g, o, none⟩ ∧ g < w.heap.size ∧ w.cell? ⟨g, o + j, none⟩ = some (.int .u8 (x : Int)) ∧ x < 256
theorem u8_at {w w' : World} {A : Option Addr} {c n : Nat} {T : List Nat} (h : U8At w A c T) (hb : Below n w w') (hn : w.heap.size ≤ n) {j x : Nat} (hj : T[j]? = some x) :
    ∃ g o, A = some ⟨g, o, none⟩ ∧ w'.cell? ⟨g, o + j, none⟩ = some (.int .u8 (x : Int)) ∧ x < 256 := by
  obtain ⟨g, o, hA, hg, hc, hx⟩ := h.2.2 j x hj
  exact ⟨g, o, hA, (hb.cell (p := ⟨g, o + j, none⟩) (by show g < n; omega)).trans hc, hx⟩

/-- What the first loop keeps. -/
def BackI (W1 : World) (c b N K0 : Nat) (A4 : Option Addr) (c4 : Nat) (W : World) : Prop :=
  ∃ own C L, Mine W1 own c b C N L W ∧ Exact C L ∧ own K0 = none ∧ W.heap[K0]? = some (.cells #[.int .i64 (N : Int), .slice A4 0 c4] 46 (0, 0))

set_option maxRecDepth 100000 in
set_option maxHeartbeats 8000000 in
theorem back_in (w : World) (P many : Nat) (hP : P < 256) (hmany : many < 256) (size order keep : Int) (hs : sizesB size order keep = true) (At : Option Addr) (ct : Nat) (T : List Nat) (hT : U8At w At ct T) (hTl : T.length ≤ 200) :
    Calls Try.prog 4 #[.agg #[.int .u8 (P : Int), .int .i64 size, .int .i64 order, .int .i64 keep], .int .u8 (many : Int), .slice At T.length ct] w fun e w' => e = .returned (.bool true) ∧ Below w.heap.size w w' := by
  obtain ⟨W1, hW1⟩ : ∃ W1, W1 = w.alloc (.cells #[.int .u8 (P : Int), .int .i64 size, .int .i64 order, .int .i64 keep] 42) := ⟨_, rfl⟩
  have hb1 : Below w.heap.size w W1 := by rw [hW1]; exact below_box w _
  have hB1 : W1.heap[w.heap.size]? = some (.cells #[.int .u8 (P : Int), .int .i64 size, .int .i64 order, .int .i64 keep] 42 (0, 0)) := by rw [hW1, heapAlloc, if_pos rfl]
  have hs1 : W1.heap.size = w.heap.size + 1 := by rw [hW1]; simp
  obtain ⟨N, hN⟩ : ∃ N, N = P % 8 := ⟨_, rfl⟩
  have hN7 : N ≤ 7 := by omega
  have hNi : (P : Int) % 8 = (N : Int) := by omega
  have b0 : W1.cell? ⟨w.heap.size, 0, none⟩ = some (.int .u8 (P : Int)) := by rw [cell_of_row _ _ _ _ _ _ hB1]; rfl
  have hp0 : (0 : Int) ≤ (P : Int) := by omega
  have hp1 : (P : Int) ≤ 255 := by omega
  have t1 : ¬ (T.length : Int) > 200 := by omega
  have HN := Lib.hid (newL_ok W1 N (by omega))
  have HW := Lib.hid hW1
  have HX := Lib.hid (And.intro hb1 (And.intro hB1 (And.intro hs1 (And.intro hN7 (And.intro hTl (And.intro hT hs))))))
  clear hb1 hB1 hs1 hN hTl hs hT hN7 hW1
  go_enter Try.func4, Try.ntmps4
  go_wp2_with (fail)
  rw [← HW.out]
  go_wp2_with (go_at_call 15; fail)
  refine HN.out.mono ?_
  rintro _ W2 ⟨rfl, hB2, hb2⟩
  have hB2s := (hb2.block w.heap.size (by have := HX.out.2.2.1; omega)).trans HX.out.2.1
  have c1 : W2.cell? ⟨w.heap.size, 1, none⟩ = some (.int .i64 size) := by rw [cell_of_row _ _ _ _ _ _ hB2s]; rfl
  have c2 : W2.cell? ⟨w.heap.size, 2, none⟩ = some (.int .i64 order) := by rw [cell_of_row _ _ _ _ _ _ hB2s]; rfl
  have c3 : W2.cell? ⟨w.heap.size, 3, none⟩ = some (.int .i64 keep) := by rw [cell_of_row _ _ _ _ _ _ hB2s]; rfl
  have HC := Lib.hid (Mine.new (size := size) (order := order) (keep := keep) hB2 hb2 (Nat.le_refl _) HX.out.2.2.2.2.2.2)
  obtain ⟨b, hb⟩ : ∃ b, b = W1.heap.size := ⟨_, rfl⟩
  rw [← hb] at HC ⊢
  clear hB2 hB2s hb2 HN b0 hb
  go_wp2_with (go_at_call 16; fail)
  refine HC.out.mono ?_
  rintro _ W3 ⟨c, s, o, k, own, -, -, -, rfl, hM3⟩
  have HS := Lib.hid (save_ok W3 b N [] hM3.held.bu)
  have HM := Lib.hid hM3
  clear hM3 c1 c2 c3 HC
  go_wp2_with (go_at_call 18; fail)
  refine HS.out.mono ?_
  rintro _ W4 ⟨⟨A4, c4, rfl, ho4⟩, hb4⟩
  have hM4 := HM.out.step hb4
  obtain ⟨K0, hK0⟩ : ∃ K0, K0 = W4.heap.size := ⟨_, rfl⟩
  obtain ⟨W5, hW5⟩ : ∃ W5, W5 = W4.alloc (.cells #[.int .i64 (N : Int), .slice A4 0 c4] 46) := ⟨_, rfl⟩
  have hI : BackI W1 c b N K0 A4 c4 W5 := by
    have hb5 : Below W4.heap.size W4 W5 := by rw [hW5]; exact below_box _ _
    refine ⟨own, _, [], hM4.step hb5, (fun z hz => by cases hz), ?_, by rw [hW5, hK0, heapAlloc, if_pos rfl]⟩
    refine Classical.byContradiction fun hn => ?_
    have := hM4.held.fresh _ hn
    omega
  have HI := Lib.hid hI
  have HK := Lib.hid (And.intro hK0 hW5)
  have HC4 := Lib.hid ho4.at.1.len.2
  clear hI hM4 ho4 hb4 HS HM hK0 hW5
  go_wp2_with (fail)
  rw [← HK.out.1, ← HK.out.2]
  clear HK
  have hcm : IntKind.i64.wrap (many : Int) = (many : Int) := IntWalk.i64_in _ (by omega)
  go_loopw [12] (fun i wr => ∃ k : Nat, k ≤ many ∧ i = .int .i64 (k : Int) ∧ BackI W1 c b N K0 A4 c4 wr) (fun i _ => many - (intOf i).toNat)
  case atStart => exact ⟨0, Nat.zero_le _, rfl, HI.out⟩
  case round =>
    obtain ⟨k, hk, rfl, own, C, L, hM, hE, hn0, hk0⟩ := hrel
    clear HI
    by_cases hlt : k < many
    · have e1 : (k : Int) < (many : Int) := by omega
      have hkk : IntKind.i64.wrap ((k : Int) + 1) = ((k + 1 : Nat) : Int) := by rw [IntWalk.i64_in _ (by omega)]; rfl
      have hK0s := lt_of_heap hk0
      cases ha : allocC C N L with
      | none =>
        have HA := Lib.hid (hM.full ha)
        have HJ := Lib.hid (And.intro hE (And.intro hn0 (And.intro hk0 hK0s)))
        clear hM hE hn0 hk0 hK0s ha
        go_wp2_with (go_at_call 12; refine HA.out.mono ?_; rintro _ W6 ⟨rfl, hM6, hK6⟩; have H6 := Lib.hid (And.intro hM6 hK6); clear hM6 hK6)
        go_roundw
        case rel => exact ⟨k + 1, by omega, by go_num, own, C, L, H6.out.1, HJ.out.1, HJ.out.2.1, (H6.out.2.block K0 HJ.out.2.2.2 HJ.out.2.1).trans HJ.out.2.2.1⟩
        case measure => simp [intOf]; omega
      | some r =>
        obtain ⟨a, sl, L'⟩ := r
        have HA := Lib.hid (hM.alloc ha)
        have HJ := Lib.hid (And.intro ((alloc_obj hM.held.ok ha).2.2 hE) (And.intro hn0 (And.intro hk0 hK0s)))
        clear hM hE hn0 hk0 hK0s ha
        go_wp2_with (go_at_call 12; refine HA.out.mono ?_; rintro _ W6 ⟨rfl, own', hM6, hK6⟩; have H6 := Lib.hid (And.intro hM6 hK6); clear hM6 hK6)
        go_roundw
        case rel => exact ⟨k + 1, by omega, by go_num, own', _, L', H6.out.1, HJ.out.1, (H6.out.2.same K0 HJ.out.2.2.2).trans HJ.out.2.1, (H6.out.2.block K0 HJ.out.2.2.2 HJ.out.2.1).trans HJ.out.2.2.1⟩
        case measure => simp [intOf]; omega
    · have e1 : ¬ (k : Int) < (many : Int) := by omega
      have hK0s := lt_of_heap hk0
      have hwr := hM.below.size
      have HO := Lib.hid hM.objects
      have hol : (objC C).length ≤ 131072 := by
        have h1 := objK_len (C := C) (fun x hx => by rw [hM.held.ok.len x hx]; exact (capa_pos hM.held.ok).2.1) C.sl.length (Nat.le_refl _)
        rw [objK_all] at h1
        have h2 := ok_len hM.held.ok
        omega
      have hfr := hM.held.fresh
      have HJ := Lib.hid (And.intro hE (And.intro hn0 (And.intro hk0 (And.intro hK0s (And.intro hwr (And.intro hol hfr))))))
      clear hM hE hn0 hk0 hK0s hwr hol hfr
      go_wp2_with (go_at_call 19; fail)
      refine HO.out.mono ?_
      rintro _ W6 ⟨⟨A', c', rfl, hr6⟩, hM6, hb6⟩
      obtain ⟨B0, hB0⟩ : ∃ B0, B0 = wr.heap.size := ⟨_, rfl⟩
      rw [← hB0] at hr6
      have hno : ∀ z, B0 ≤ z → own z = none := fun z hz => by
        refine Classical.byContradiction fun hn => ?_
        have := HJ.out.2.2.2.2.2.2 z hn
        omega
      obtain ⟨ln, hln⟩ : ∃ ln, ln = (objC C).length := ⟨_, rfl⟩
      have H6 := Lib.hid (And.intro hr6 (And.intro hM6 (And.intro hno (And.intro hln (And.intro HJ.out.1 (And.intro HJ.out.2.1 (And.intro ((hb6.block K0 HJ.out.2.2.2.1).trans HJ.out.2.2.1) (show K0 < B0 ∧ ln ≤ 131072 ∧ W1.heap.size ≤ B0 from ⟨by have := HJ.out.2.2.2.1; omega, by have := HJ.out.2.2.2.2.2.1; omega, by have := HJ.out.2.2.2.2.1; omega⟩))))))))
      rw [← hln]
      clear hr6 hM6 hno hln HJ HO hb6 hB0
      go_wp2_with (fail)
      go_loopw [15, 17, 18] (fun l i _ wx => ∃ (M : List Nat) (A9 : Option Addr) (c9 ii : Nat) (C : Ca) (L : List Blk), l = .slice A9 M.length c9 ∧ i = .int .i64 (ii : Int) ∧ ii + M.length = ln ∧ M = objC C ∧ Exact C L ∧ Own64 wx B0 A9 c9 M ∧ Mine W1 own c b C N L wx ∧ wx.heap[K0]? = some (.cells #[.int .i64 (N : Int), .slice A4 0 c4] 46 (0, 0))) (fun l _ _ _ => lenOf l)
      case atStart =>
        obtain ⟨hr6, hM6, hno, hln, hE, hn0, hk0, hr⟩ := H6.out
        exact ⟨objC C, A', c', 0, C, L, by rw [hln], rfl, by omega, rfl, hE, hr6, hM6, hk0⟩
      case round =>
        obtain ⟨M, A9, c9, ii, C, L, rfl, rfl, hil, hMo, hE, hown, hM, hk0⟩ := hrel
        have hln := H6.out.2.2.2.2.2.2.2.2.1
        by_cases hpos : 0 < M.length
        · obtain ⟨g, hAg, hg1, hg2⟩ := own64_some hown hpos
          have hcap := (own64_at hown).cap
          have hcap1 := (own64_at hown).len
          unfold maxLen at hcap
          have HO := Lib.hid (And.intro hown (And.intro hM (And.intro hE (And.intro hMo hk0))))
          have e0 : (0 : Int) < (M.length : Int) := by omega
          have e2 : (0 : Int) ≤ (ii : Int) := by omega
          have hkk : IntKind.i64.wrap ((ii : Int) + 1) = ((ii + 1 : Nat) : Int) := by rw [IntWalk.i64_in _ (by omega)]; rfl
          clear hown hM hE hMo hk0
          subst hAg
          go_upto_if 89 with (fail)
          go_cut [18] from 81 to 114 (fun kv wx => wx = wr ∧ ∃ k : Nat, k < M.length ∧ kv = .int .i64 (k : Int))
          case first =>
            by_cases hlt2 : ii < T.length
            · obtain ⟨x, hx⟩ : ∃ x, T[ii]? = some x := ⟨_, List.getElem?_eq_getElem hlt2⟩
              have hMb := HO.out.2.1.below
              obtain ⟨gt, ot, hAt, hd, hx8⟩ := u8_at HX.out.2.2.2.2.2.1 (HX.out.1.trans (hMb.mono (by have := HX.out.2.2.1; omega))) (Nat.le_refl _) hx
              have e3 : (ii : Int) < (T.length : Int) := by omega
              have hct := HX.out.2.2.2.2.2.1.1
              have hcv : IntKind.i64.wrap (x : Int) = (x : Int) := IntWalk.i64_in _ (by omega)
              have e4 : (0 : Int) ≤ (x : Int) := by omega
              have e5 : (M.length : Int) ≠ 0 := by omega
              subst hAt
              have HK := Lib.hid (show ∃ k : Nat, k < M.length ∧ Value.int .i64 ((x : Int) % (M.length : Int)) = .int .i64 (k : Int) from ⟨x % M.length, Nat.mod_lt _ hpos, by rw [Int.natCast_emod]⟩)
              clear hx hMb
              go_wp2_with (fail)
              go_meet
              exact ⟨rfl, HK.out⟩
            · have e3 : ¬ (ii : Int) < (T.length : Int) := by omega
              go_wp2_with (fail)
              go_meet
              exact ⟨rfl, 0, hpos, rfl⟩
          case rest =>
            obtain ⟨rfl, k, hk, rfl⟩ := hcut
            obtain ⟨a, ha⟩ : ∃ a, M[k]? = some a := ⟨_, List.getElem?_eq_getElem hk⟩
            have ha1 := row_at HO.out.1 (n64_get ha)
            have hao : IsObj C a := mem_objC.1 (by rw [← HO.out.2.2.2.1]; exact List.mem_of_getElem? ha)
            obtain ⟨_, ha66, _⟩ := obj_in HO.out.2.1.held.ok hao
            obtain ⟨sl, L', hf, hobj, hEx⟩ := free_obj HO.out.2.1.held.ok hao
            have hfree := HO.out.2.1.free (at_ := (a : Int)) (by omega) (by omega) hf
            obtain ⟨k1, hk1e⟩ : ∃ k1 : Nat, k1 = k + 1 := ⟨_, rfl⟩
            obtain ⟨M1, hM1⟩ : ∃ M1, M1 = M.take k := ⟨_, rfl⟩
            obtain ⟨M2, hM2⟩ : ∃ M2, M2 = M.drop k1 := ⟨_, rfl⟩
            obtain ⟨M3, hM3⟩ : ∃ M3, M3 = M1 ++ M2 := ⟨_, rfl⟩
            have hl1 : M1.length = k := by rw [hM1, List.length_take]; omega
            have hl2 : M2.length = M.length - k1 := by rw [hM2, List.length_drop]
            have hl3 : M3.length + 1 = M.length := by rw [hM3, List.length_append, hl1, hl2]; omega
            have hobj3 : ∀ C' : Ca, CaOk C' N L' → C' = { C with sl := sl } → M3 = objC C' := fun C' hok hC' => by
              have hasc := asc_objC HO.out.2.1.held.ok
              rw [← HO.out.2.2.2.1] at hasc
              have hM3e : M3 = M.eraseIdx k := by rw [hM3, hM1, hM2, hk1e, List.eraseIdx_eq_take_drop_succ]
              refine nat_asc_eq (hM3e ▸ hasc.sublist (List.eraseIdx_sublist M k)) (asc_objC hok) fun z => ?_
              rw [mem_objC, hC', hobj z, ← mem_objC, ← HO.out.2.2.2.1, hM3e, List.mem_eraseIdx_iff_getElem?]
              constructor
              · rintro ⟨i, hi, hz⟩
                refine ⟨List.mem_of_getElem? hz, fun e => hi ?_⟩
                subst e
                obtain ⟨g1, g2⟩ := List.getElem?_eq_some_iff.1 hz
                obtain ⟨g3, g4⟩ := List.getElem?_eq_some_iff.1 ha
                rcases Nat.lt_trichotomy i k with f | f | f
                · have := List.pairwise_iff_getElem.1 hasc i k g1 g3 f; omega
                · exact f
                · have := List.pairwise_iff_getElem.1 hasc k i g3 g1 f; omega
              · rintro ⟨hz, hne⟩
                obtain ⟨i, hi⟩ := List.mem_iff_getElem?.1 hz
                exact ⟨i, fun e => hne (by rw [e, ha] at hi; injection hi with hi; exact hi.symm), hi⟩
            have HF := Lib.hid hfree
            have HK1 := Lib.hid (And.intro hobj3 (And.intro hEx (And.intro hl1 (And.intro hl2 (And.intro hM1 (And.intro hM2 (And.intro hM3 hk1e)))))))
            have e3 : (0 : Int) ≤ (k : Int) := by omega
            have e4 : (k : Int) < (M.length : Int) := by omega
            have hkn := own64_at HO.out.1
            have hk1 : IntKind.i64.wrap ((k : Int) + 1) = (k1 : Int) := by rw [IntWalk.i64_in _ (by omega)]; omega
            have u0 : (k : Int) ≤ (c9 : Int) := by omega
            have u1 : (0 : Int) ≤ (k1 : Int) := by omega
            have u2 : (k1 : Int) ≤ (M.length : Int) := by omega
            have u3 : (M.length : Int) ≤ (c9 : Int) := by omega
            clear ha hao hf hobj hEx hfree hobj3 hl1 hl2 hM1 hM2 hM3 hk1e hkn
            go_wp2_with (go_at_call 11; fail)
            refine HF.out.mono ?_
            rintro _ W7 ⟨rfl, hM7, hK7⟩
            have hr7 : Own64 W7 B0 (some ⟨g, 0, none⟩) c9 M := row_keep HO.out.1 fun z h1 h2 => hK7.block z h2 (H6.out.2.2.1 z h1)
            have hat := own64_at hr7
            have hsrc1 : I64At W7 (some ⟨g, 0, none⟩) c9 M1 := by rw [HK1.out.2.2.2.2.1]; exact hat.take
            have hsrc2 : I64At W7 (if c9 = k1 then some ⟨g, 0, none⟩ else some ⟨g, k1, none⟩) (c9 - k1) M2 := by
              by_cases e : c9 = k1
              · have h0 : M2 = [] := List.length_eq_zero_iff.1 (by have := HK1.out.2.2.2.1; omega)
                rw [h0]
                exact ⟨Nat.zero_le _, by unfold maxLen; omega, fun j x hx => by simp at hx⟩
              · rw [if_neg e, HK1.out.2.2.2.2.2.1]
                have := hat.drop (k := k1) (by omega)
                rw [Nat.zero_add] at this
                exact this
            have hrow7 := row_empty64 W7 W7.heap.size (Nat.le_refl _)
            have hW7s : B0 ≤ W7.heap.size := by have := hK7.size; omega
            have hk07 : W7.heap[K0]? = _ := (hK7.block K0 (by have := H6.out.2.2.2.2.2.2.2.1; omega) H6.out.2.2.2.2.2.1).trans HO.out.2.2.2.2
            have H7 := Lib.hid (And.intro hM7 (And.intro hsrc1 (And.intro hsrc2 (And.intro hrow7 (And.intro hW7s hk07)))))
            clear hM7 hK7 hr7 hat hsrc1 hsrc2 hrow7 hW7s hk07 ha1
            go_wp2_with (fail)
            go_region_law (first
              | (refine step_append_i64 (by rfl) (.tmp 105) (.tmp 108) (by rfl) W7.heap.size _ [] (by rfl) H7.out.2.2.2.1 (some ⟨g, 0, none⟩) c9 M1 (by rw [HK1.out.2.2.1]; rfl) (H7.out.2.1.below (w' := (W7.alloc (.cells #[] 2)).drew) (below_box W7 _).drew) (fun h => by cases h) (by have := HK1.out.2.2.1; simp; omega) (by show W7.heap.size ≤ (W7.alloc _).heap.size; simp) ?_
                 intro A8 c8 w8 hrow8 hgr8
                 rw [List.nil_append] at hrow8 ⊢
                 have hb8 : Below W7.heap.size W7 w8 := ((below_box W7 _).drew).grown hgr8 (by show W7.heap.size ≤ (W7.alloc _).heap.size; simp) (fun k hk => (H7.out.2.2.2.1.lt k hk).1)
                 have H8 := Lib.hid (And.intro hrow8 hb8)
                 clear hrow8 hgr8 hb8)
              | (refine step_append_i64 (by rfl) (.tmp 109) (.tmp 113) (by rfl) W7.heap.size _ M1 (by rfl) H8.out.1 (if c9 = k1 then some ⟨g, 0, none⟩ else some ⟨g, k1, none⟩) (c9 - k1) M2 (by rw [HK1.out.2.2.2.1]; rfl) (H7.out.2.2.1.below H8.out.2) (fun h => by split at h <;> cases h) (by have := HK1.out.2.2.1; have := HK1.out.2.2.2.1; omega) H8.out.2.size ?_
                 intro A10 c10 w10 hrow10 hgr10
                 rw [← HK1.out.2.2.2.2.2.2.1] at hrow10 ⊢
                 have hb10 : Below W7.heap.size W7 w10 := H8.out.2.grown hgr10 H8.out.2.size (fun k hk => (H8.out.1.lt k hk).1)
                 have H10 := Lib.hid (And.intro hrow10 hb10)
                 clear hrow10 hgr10 hb10))
            go_wp2_with (fail)
            go_roundw
            case rel =>
              have hM7 := H7.out.1
              exact ⟨M3, A10, c10, ii + 1, _, _, rfl, by go_num, by omega, HK1.out.1 _ hM7.held.ok rfl, HK1.out.2.1 HO.out.2.2.1, own64_low H10.out.1 H7.out.2.2.2.2.1, hM7.step H10.out.2, (H10.out.2.block K0 (lt_of_heap H7.out.2.2.2.2.2)).trans H7.out.2.2.2.2.2⟩
            case measure => simp [lenOf]; omega
        · obtain rfl : M = [] := List.length_eq_zero_iff.1 (by omega)
          have hnone : ∀ a, ¬ IsObj C a := fun a ha => by
            have := mem_objC.2 ha
            rw [← hMo] at this
            cases this
          obtain ⟨htr1, htr2⟩ := trim_all hnone hE
          have htrim := hM.trim
          rw [htr2] at htrim
          obtain ⟨en, hen⟩ : ∃ en : Nat, en = emptyS C.sl := ⟨_, rfl⟩
          rw [← hen] at htrim
          have HT := Lib.hid htrim
          have HJ := Lib.hid (And.intro htr1 (And.intro hk0 (lt_of_heap hk0)))
          have hne : ¬ ((([] : List Nat).length : Nat) : Int) > 0 := by simp
          have t0 : (0 : Int) ≤ (en : Int) := by omega
          clear htrim hnone htr1 htr2 hen hMo hE hown hM hk0
          go_wp2_with (go_at_call 20; fail)
          refine HT.out.mono ?_
          rintro _ W8 ⟨rfl, hM8, hK8⟩
          have hk8 := (hK8.block K0 HJ.out.2.2 H6.out.2.2.2.2.2.1).trans HJ.out.2.1
          have hsl := hM8.slabs
          rw [HJ.out.1] at hsl
          have HS8 := Lib.hid hsl
          have HK8 := Lib.hid (And.intro hk8 (lt_of_heap hk8))
          clear hM8 hK8 hk8 hsl HT
          go_wp2_with (go_at_call 14; fail)
          refine HS8.out.mono ?_
          rintro _ W9 ⟨⟨A11, c11, rfl, -⟩, hM9, hb9⟩
          have hk9 := (hb9.block K0 HK8.out.2).trans HK8.out.1
          have f0 : W9.cell? ⟨K0, 0, none⟩ = some (.int .i64 (N : Int)) := by rw [cell_of_row _ _ _ _ _ _ hk9]; rfl
          have f1 : W9.cell? ⟨K0, 1, none⟩ = some (.slice A4 0 c4) := by rw [cell_of_row _ _ _ _ _ _ hk9]; rfl
          have HM9 := Lib.hid (And.intro hM9.below (And.intro hM9.held.bu (And.intro hM9.below.size HC4.out)))
          clear hM9 hb9 hk9 HS8 HK8
          go_wp2_with (fail)
          go_region_held3 (fun w' => w'.cell? ⟨K0, 0, none⟩ = some (.int .i64 (N : Int)) ∧ w'.cell? ⟨K0, 1, none⟩ = some (.slice A4 0 c4)) (first | exact ⟨f0, f1⟩ | exact ⟨g0, g1⟩ | exact ⟨g2, g3⟩ | exact ⟨g4, g5⟩ | go_keep) (first
            | (go_at_call 18; refine (save_ok (World.drew W9) b N [] (HM9.out.2.1.keep rfl)).mono ?_; rintro _ W10 ⟨⟨A12, c12, rfl, ho⟩, hb10⟩; have g0 := cell_keep2 hb10 f0; have g1 := cell_keep2 hb10 f1; have H10 := Lib.hid (And.intro ho hb10); clear ho hb10)
            | (go_at_call 21; refine (same_self _ N A12 A4 c12 c4 [] H10.out.1.at.1 ⟨Nat.zero_le _, HM9.out.2.2.2, fun j x hx => by simp at hx⟩).mono ?_; rintro _ W11 ⟨rfl, hb11⟩; have g2 := cell_keep2 hb11 g0; have g3 := cell_keep2 hb11 g1; have H11 := Lib.hid hb11; clear hb11)
            | (go_at_call 17; refine (shown_ok _).mono ?_; rintro _ W12 ⟨rfl, hb12⟩; have g4 := cell_keep2 hb12 g2; have g5 := cell_keep2 hb12 g3; have H12 := Lib.hid hb12; clear hb12))
          all_goals
            go_wp2_with (fail)
            go_ret
            refine ⟨rfl, ?_⟩
            have h1 := HX.out.1
            have h2 := HM9.out.1.mono h1.size
            have h3 := H10.out.2
            have h4 := H11.out
            have h5 := H12.out
            have s2 := HM9.out.2.2.1
            have h12 := h1.trans h2
            exact below_step (below_step (below_step' h12 h3 (Nat.le_refl _)) h4 (Nat.le_refl _)) h5 (Nat.le_refl _)
end Sl
end Go.Proofs.Ytlknhbcambdccaa
namespace Go.Proofs.Ytlknhbcambdccaa
open Go.RowKit
namespace Sl
open Bu

set_option maxRecDepth 100000 in
set_option maxHeartbeats 4000000 in
theorem back_bad (w : World) (P many : Nat) (hP : P < 256) (size order keep : Int) (hs : sizesB size order keep = false) (At : Option Addr) (ct : Nat) (T : List Nat) (hTl : T.length ≤ 200) :
    Calls Try.prog 4 #[.agg #[.int .u8 (P : Int), .int .i64 size, .int .i64 order, .int .i64 keep], .int .u8 (many : Int), .slice At T.length ct] w fun e w' => e = .returned (.bool true) ∧ Below w.heap.size w w' := by
  obtain ⟨W1, hW1⟩ : ∃ W1, W1 = w.alloc (.cells #[.int .u8 (P : Int), .int .i64 size, .int .i64 order, .int .i64 keep] 42) := ⟨_, rfl⟩
  have hb1 : Below w.heap.size w W1 := by rw [hW1]; exact below_box w _
  have hB1 : W1.heap[w.heap.size]? = some (.cells #[.int .u8 (P : Int), .int .i64 size, .int .i64 order, .int .i64 keep] 42 (0, 0)) := by rw [hW1, heapAlloc, if_pos rfl]
  have hs1 : W1.heap.size = w.heap.size + 1 := by rw [hW1]; simp
  obtain ⟨N, hN⟩ : ∃ N, N = P % 8 := ⟨_, rfl⟩
  have hNi : (P : Int) % 8 = (N : Int) := by omega
  have b0 : W1.cell? ⟨w.heap.size, 0, none⟩ = some (.int .u8 (P : Int)) := by rw [cell_of_row _ _ _ _ _ _ hB1]; rfl
  have hp0 : (0 : Int) ≤ (P : Int) := by omega
  have hp1 : (P : Int) ≤ 255 := by omega
  have t1 : ¬ (T.length : Int) > 200 := by omega
  have HN := Lib.hid (newL_ok W1 N (by omega))
  have HW := Lib.hid hW1
  have HX := Lib.hid (And.intro hb1 (And.intro hB1 (And.intro hs1 hs)))
  have hq : ∀ (w : World) (p : Option Addr), (binOp .eql 22 (.pointer p) (.pointer none)).run Try.prog w = .ok (.bool p.isNone) w := fun w p => run_eql_ptr_nil Try.prog w 22 _ p Try.underlying22
  clear hb1 hB1 hs1 hN hTl hs hW1
  go_enter Try.func4, Try.ntmps4
  go_wp2_with (fail)
  rw [← HW.out]
  go_wp2_with (go_at_call 15; fail)
  refine HN.out.mono ?_
  rintro _ W2 ⟨rfl, hB2, hb2⟩
  have hB2s := (hb2.block w.heap.size (by have := HX.out.2.2.1; omega)).trans HX.out.2.1
  have c1 : W2.cell? ⟨w.heap.size, 1, none⟩ = some (.int .i64 size) := by rw [cell_of_row _ _ _ _ _ _ hB2s]; rfl
  have c2 : W2.cell? ⟨w.heap.size, 2, none⟩ = some (.int .i64 order) := by rw [cell_of_row _ _ _ _ _ _ hB2s]; rfl
  have c3 : W2.cell? ⟨w.heap.size, 3, none⟩ = some (.int .i64 keep) := by rw [cell_of_row _ _ _ _ _ _ hB2s]; rfl
  have HC := Lib.hid (Mine.bad (size := size) (order := order) (keep := keep) hB2 HX.out.2.2.2)
  have H2 := Lib.hid hb2
  obtain ⟨b, hb⟩ : ∃ b, b = W1.heap.size := ⟨_, rfl⟩
  rw [← hb] at HC ⊢
  clear hB2 hB2s hb2 HN b0 hb
  go_wp2_with (go_at_call 16; fail)
  refine HC.out.mono ?_
  rintro _ W3 ⟨rfl, hb3⟩
  have HS := Lib.hid (shown_ok W3)
  have H3 := Lib.hid hb3
  clear hb3 c1 c2 c3 HC
  go_wp2_with (go_at_call 17; fail)
  refine HS.out.mono ?_
  rintro _ W4 ⟨rfl, hb4⟩
  have H4 := Lib.hid hb4
  clear hb4 HS
  go_wp2
  go_ret
  exact ⟨rfl, below_step (below_step (below_step HX.out.1 H2.out (Nat.le_refl _)) H3.out (Nat.le_refl _)) H4.out (Nat.le_refl _)⟩

set_option maxRecDepth 100000 in
set_option maxHeartbeats 2000000 in
theorem back_long (w : World) (P many : Nat) (size order keep : Int) (At : Option Addr) (ct : Nat) (T : List Nat) (hTl : 200 < T.length) :
    Calls Try.prog 4 #[.agg #[.int .u8 (P : Int), .int .i64 size, .int .i64 order, .int .i64 keep], .int .u8 (many : Int), .slice At T.length ct] w fun e w' => e = .returned (.bool true) ∧ Below w.heap.size w w' := by
  have t1 : (T.length : Int) > 200 := by omega
  have HS := Lib.hid (fun W : World => shown_ok W)
  go_enter Try.func4, Try.ntmps4
  go_wp2_with (go_at_call 17; fail)
  refine (HS.out _).mono ?_
  rintro _ W4 ⟨rfl, hb4⟩
  have H4 := Lib.hid hb4
  clear hb4
  go_wp2
  go_ret
  exact ⟨rfl, below_step (below_box w _) H4.out (Nat.le_refl _)⟩

theorem back_walk (w : World) (P many : Nat) (hP : P < 256) (hmany : many < 256) (size order keep : Int) (At : Option Addr) (ct : Nat) (T : List Nat) (hT : U8At w At ct T) :
    Calls Try.prog 4 #[.agg #[.int .u8 (P : Int), .int .i64 size, .int .i64 order, .int .i64 keep], .int .u8 (many : Int), .slice At T.length ct] w fun e w' => e = .returned (.bool true) ∧ Below w.heap.size w w' := by
  by_cases h : T.length ≤ 200
  · cases hs : sizesB size order keep with
    | true => exact back_in w P many hP hmany size order keep hs At ct T hT h
    | false => exact back_bad w P many hP size order keep hs At ct T h
  · exact back_long w P many size order keep At ct T (by omega)

section
variable {H : Type} {enc : TypeId × Value → H} {W : World} {v : Value} {d : DataW H} {p : List MemPlace}
open Go.ChangeShapes Go.WideShapes Go.ChangeAt Go.RowKit Go.Deep Go.Joins

set_option maxRecDepth 100000 in
theorem wf_u8 {n : Int} (h : (Lit.int .u8 n).wf = true) : ∃ k : Nat, n = (k : Int) ∧ k < 256 := by
  simp only [Lit.wf, IntKind.min, IntKind.max, IntKind.signed, IntKind.bits, Bool.and_eq_true, decide_eq_true_eq, if_true, Bool.false_eq_true, if_false] at h
  obtain ⟨k, rfl⟩ := Int.eq_ofNat_of_zero_le (show 0 ≤ n by omega)
  exact ⟨k, rfl, by omega⟩
set_option maxRecDepth 100000 in
theorem wf_i64 {n : Int} (h : (Lit.int .i64 n).wf = true) : -9223372036854775808 ≤ n ∧ n < 9223372036854775808 := by
  simp only [Lit.wf, IntKind.min, IntKind.max, IntKind.signed, IntKind.bits, Bool.and_eq_true, decide_eq_true_eq, if_true, Bool.false_eq_true, if_false] at h
  omega

set_option maxRecDepth 100000 in
theorem open_shape {r : Reach} {b0 : Nat} (hv : Value.okWide Try.prog W r b0 42 v) (h : DataW.Trod enc Try.prog W 0 (fun _ => true) true 42 v d p) :
    ∃ (P : Nat) (size order keep : Int), v = .agg #[.int .u8 (P : Int), .int .i64 size, .int .i64 order, .int .i64 keep] ∧ P < 256 := by
  obtain ⟨v0, v1, v2, v3, y0, y1, y2, y3, n, rfl, _, _, t0, t1, t2, t3⟩ := open_agg4 Try.underlying42 (by kernel_rfl) (by kernel_rfl) hv h
  obtain ⟨n0, e0, _, w0⟩ := DataW.trod_int Try.underlying5 t0
  obtain ⟨n1, e1, _, _⟩ := DataW.trod_int Try.underlying3 t1
  obtain ⟨n2, e2, _, _⟩ := DataW.trod_int Try.underlying3 t2
  obtain ⟨n3, e3, _, _⟩ := DataW.trod_int Try.underlying3 t3
  simp only [List.cons.injEq, and_true] at e0 e1 e2 e3
  subst e0 e1 e2 e3
  obtain ⟨k, rfl, hk⟩ := wf_u8 w0
  exact ⟨k, n1, n2, n3, rfl, hk⟩
set_option maxRecDepth 100000 in
theorem open_u8 {r : Reach} {b0 : Nat} (hv : Value.okWide Try.prog W r b0 5 v) (h : DataW.Trod enc Try.prog W 0 (fun _ => true) true 5 v d p) : ∃ k : Nat, v = .int .u8 (k : Int) ∧ k < 256 := by
  obtain ⟨n, rfl, _, _, hw⟩ := open_int Try.underlying5 hv h
  obtain ⟨k, rfl, hk⟩ := wf_u8 hw
  exact ⟨k, rfl, hk⟩
set_option maxRecDepth 100000 in
theorem open_u8s {r : Reach} {b0 : Nat} (hv : Value.okWide Try.prog W r b0 43 v) (h : DataW.Trod enc Try.prog W 0 (fun _ => true) true 43 v d p) :
    ∃ (A : Option Addr) (c : Nat) (T : List Nat), v = .slice A T.length c ∧ U8At W A c T := by
  obtain ⟨A, len, cap, rfl⟩ := okWide_slice Try.underlying43 hv
  obtain ⟨fuel, hf⟩ := h
  rcases open_ints Try.underlying43 Try.underlying5 (by kernel_rfl) hf with ⟨hcs, _⟩ | ⟨a, l, c, zs, hcs, _, hl, hm, hz, _, hc, hwf⟩
  · simp only [Value.cells, List.cons.injEq, Value.slice.injEq, and_true] at hcs
    obtain ⟨rfl, rfl, rfl⟩ := hcs
    exact ⟨none, 0, [], rfl, Nat.le_refl _, Nat.zero_le _, fun j x hx => by simp at hx⟩
  · simp only [Value.cells, List.cons.injEq, Value.slice.injEq, and_true] at hcs
    obtain ⟨rfl, rfl, rfl⟩ := hcs
    have hlm : len ≤ zs.length := by rw [hz]; split <;> omega
    have key : ∀ j : Nat, j < len → ∃ x : Nat, ∃ g o, some a = some ⟨g, o, none⟩ ∧ g < W.heap.size ∧ W.cell? ⟨g, o + j, none⟩ = some (.int .u8 (x : Int)) ∧ x < 256 := by
      intro j hj
      have h1 := hc j (by omega)
      have hmem : zs.getD j 0 ∈ zs := by
        rw [List.getD_eq_getElem?_getD, List.getElem?_eq_getElem (by omega)]
        exact List.getElem_mem _
      obtain ⟨x, hx, hx8⟩ := wf_u8 (hwf _ hmem)
      obtain ⟨g, o, spot⟩ := a
      have h0 := World.cell?_spot (hc 0 (by omega))
      rw [Addr.add, if_pos rfl] at h0
      have h0 : spot = none := h0
      subst h0
      rw [Bu.add_plain] at h1
      rw [hx] at h1
      exact ⟨x, g, o, rfl, World.block_lt_of_cell? _ (a := ⟨g, _, none⟩) h1, h1, hx8⟩
    obtain ⟨l, rfl, hp⟩ := list_of _ len key
    exact ⟨some a, cap, l, rfl, hl, hm, hp⟩
end
end Sl
end Go.Proofs.Ytlknhbcambdccaa
namespace Go.Proofs.Ytlknhbcambdccaa
open Go.RowKit
namespace Sl
open Bu

/-- Acts. -/
def ActAt (w : World) (A : Option Addr) (c : Nat) (T : List (Nat × Int)) : Prop :=
  T.length ≤ c ∧ c ≤ maxLen ∧ ∀ (j : Nat) (x : Nat × Int), T[j]? = some x → ∃ g o, A = some ⟨g, o, none⟩ ∧ g < w.heap.size ∧ w.cell? ⟨g, o + j * 2, none⟩ = some (.int .u8 (x.1 : Int)) ∧ w.cell? ⟨g, o + j * 2 + 1, none⟩ = some (.int .i64 x.2) ∧ x.1 < 256 ∧ -9223372036854775808 ≤ x.2 ∧ x.2 < 9223372036854775808
theorem act_at {w w' : World} {A : Option Addr} {c n : Nat} {T : List (Nat × Int)} (h : ActAt w A c T) (hb : Below n w w') (hn : w.heap.size ≤ n) {j : Nat} {x : Nat × Int} (hj : T[j]? = some x) :
    ∃ g o, A = some ⟨g, o, none⟩ ∧ w'.cell? ⟨g, o + j * 2, none⟩ = some (.int .u8 (x.1 : Int)) ∧ w'.cell? ⟨g, o + j * 2 + 1, none⟩ = some (.int .i64 x.2) ∧ x.1 < 256 := by
  obtain ⟨g, o, hA, hg, h1, h2, h3, _⟩ := h.2.2 j x hj
  exact ⟨g, o, hA, (hb.cell (p := ⟨g, o + j * 2, none⟩) (by show g < n; omega)).trans h1, (hb.cell (p := ⟨g, o + j * 2 + 1, none⟩) (by show g < n; omega)).trans h2, h3⟩

theorem four_at {W : World} {B T : Nat} {x0 x1 x2 x3 : Value} (h : W.heap[B]? = some (.cells #[x0, x1, x2, x3] T (0, 0))) : W.cell? ⟨B, 0, none⟩ = some x0 ∧ W.cell? ⟨B, 1, none⟩ = some x1 ∧ W.cell? ⟨B, 2, none⟩ = some x2 ∧ W.cell? ⟨B, 3, none⟩ = some x3 := by
  refine ⟨?_, ?_, ?_, ?_⟩ <;> (rw [cell_of_row _ _ _ _ _ _ h]; rfl)

/-- A number that is any one, as an index. -/
theorem pick_nums (n : Int) (l : Nat) (hl : 0 < l) (hl2 : l ≤ 1000000) : ∃ U k : Nat, IntKind.u64.wrap n = (U : Int) ∧ k < l ∧ IntKind.u64.wrap (l : Int) = (l : Int) ∧ IntKind.u64.wrap ((U : Int).tmod (l : Int)) = (k : Int) ∧ (U : Int) % (l : Int) = (k : Int) ∧ IntKind.u64.wrap (k : Int) = (k : Int) ∧ IntKind.i64.wrap (k : Int) = (k : Int) := by
  have hw : 0 ≤ IntKind.u64.wrap n := by
    have e : IntKind.u64.wrap n = n % 18446744073709551616 := by simp [IntKind.wrap, IntKind.bits, IntKind.signed]
    rw [e]; exact Int.emod_nonneg _ (by decide)
  obtain ⟨U, hU⟩ := Int.eq_ofNat_of_zero_le hw
  have hk := Nat.mod_lt U hl
  refine ⟨U, U % l, hU, hk, ?_, ?_, rfl, ?_, ?_⟩
  · exact u64_wrap l (by omega)
  · rw [← Int.ofNat_tmod]
    obtain ⟨k, hke⟩ : ∃ k, k = U % l := ⟨_, rfl⟩
    rw [← hke] at hk ⊢
    exact u64_wrap k (by omega)
  · obtain ⟨k, hke⟩ : ∃ k, k = U % l := ⟨_, rfl⟩
    rw [← hke] at hk ⊢
    exact u64_wrap k (by omega)
  · obtain ⟨k, hke⟩ : ∃ k, k = U % l := ⟨_, rfl⟩
    rw [← hke] at hk ⊢
    exact IntWalk.i64_in _ (by omega)

theorem row_own {W W' : World} {own own' : Own?} {B c : Nat} {A : Option Addr} {M : List Nat} (h : Own64 W B A c M) (ho : ∀ g, A.map (·.block) = some g → own g = none) (hK : Keeps own own' W W') : Own64 W' B A c M := by
  refine ⟨h.1, ?_⟩
  rcases h.2 with hn | ⟨g', cap, cur, hv, hB, hgg, rest⟩
  · exact .inl hn
  · have e : A = some ⟨g', 0, none⟩ := by injection hv
    exact .inr ⟨g', cap, cur, hv, hB, by rw [hK.block g' (lt_of_heap hgg) (ho g' (by rw [e]; rfl))]; exact hgg, rest⟩

theorem held_same {W W' : World} {own : Own?} {c b : Nat} {C : Ca} {N : Nat} {L : List Blk} (h : Held W own c b C N L) (hs : W.heap.size ≤ W'.heap.size) (hk : ∀ z, own z ≠ none → z < W.heap.size → W'.heap[z]? = W.heap[z]?) : Held W' own c b C N L := by
  obtain ⟨A, cap, R, hC⟩ := h.at_
  exact ⟨⟨A, cap, R, hC.same (fun k h1 _ h2 => hk k h1 h2) (fun _ _ _ => rfl) rfl⟩, h.bu.keep (hk b (by rw [hC.ownB]; simp) h.bu.lt), h.ok, fun k h1 => Nat.lt_of_lt_of_le (h.fresh k h1) hs⟩
theorem nodup_eraseIdx {M : List Nat} (h : M.Nodup) {k a : Nat} (ha : M[k]? = some a) (z : Nat) : z ∈ M.eraseIdx k ↔ z ∈ M ∧ z ≠ a := by
  rw [List.mem_eraseIdx_iff_getElem?]
  obtain ⟨g3, g4⟩ := List.getElem?_eq_some_iff.1 ha
  constructor
  · rintro ⟨i, hi, hz⟩
    refine ⟨List.mem_of_getElem? hz, fun e => hi ?_⟩
    subst e
    obtain ⟨g1, g2⟩ := List.getElem?_eq_some_iff.1 hz
    exact (List.getElem_inj h).1 (g2.trans g4.symm)
  · rintro ⟨hz, hne⟩
    obtain ⟨i, hi⟩ := List.mem_iff_getElem?.1 hz
    exact ⟨i, fun e => hne (by rw [e, ha] at hi; injection hi with hi; exact hi.symm), hi⟩

set_option maxRecDepth 100000 in
set_option maxHeartbeats 8000000 in
theorem disj_in (w : World) (P : Nat) (hP : P < 256) (size order keep : Int) (hs : sizesB size order keep = true) (At : Option Addr) (ct : Nat) (T : List (Nat × Int)) (hT : ActAt w At ct T) (hTl : T.length ≤ 100) :
    Calls Try.prog 5 #[.agg #[.int .u8 (P : Int), .int .i64 size, .int .i64 order, .int .i64 keep], .slice At T.length ct] w fun e w' => e = .returned (.bool true) ∧ Below w.heap.size w w' := by
  obtain ⟨W1, hW1⟩ : ∃ W1, W1 = w.alloc (.cells #[.int .u8 (P : Int), .int .i64 size, .int .i64 order, .int .i64 keep] 42) := ⟨_, rfl⟩
  have hb1 : Below w.heap.size w W1 := by rw [hW1]; exact below_box w _
  have hB1 : W1.heap[w.heap.size]? = some (.cells #[.int .u8 (P : Int), .int .i64 size, .int .i64 order, .int .i64 keep] 42 (0, 0)) := by rw [hW1, heapAlloc, if_pos rfl]
  have hs1 : W1.heap.size = w.heap.size + 1 := by rw [hW1]; simp
  have hbx : ∀ V, Below W1.heap.size W1 V → V.cell? ⟨w.heap.size, 0, none⟩ = some (.int .u8 (P : Int)) ∧ V.cell? ⟨w.heap.size, 1, none⟩ = some (.int .i64 size) ∧ V.cell? ⟨w.heap.size, 2, none⟩ = some (.int .i64 order) ∧ V.cell? ⟨w.heap.size, 3, none⟩ = some (.int .i64 keep) := fun V hV => four_at ((hV.block w.heap.size (by omega)).trans hB1)
  obtain ⟨N, hN⟩ : ∃ N, N = P % 8 := ⟨_, rfl⟩
  have hNi : (P : Int) % 8 = (N : Int) := by omega
  obtain ⟨b0, b1', b2', b3'⟩ := hbx W1 (Below.refl _ _)
  have hp0 : (0 : Int) ≤ (P : Int) := by omega
  have hp1 : (P : Int) ≤ 255 := by omega
  have t1 : ¬ (T.length : Int) > 100 := by omega
  have HN := Lib.hid (newL_ok W1 N (by omega))
  have HW := Lib.hid hW1
  have HBX := Lib.hid hbx
  have HX := Lib.hid (And.intro hb1 (And.intro hs1 (And.intro hTl (And.intro hT hs))))
  clear hb1 hB1 hs1 hN hTl hs hT hW1 hbx b1' b2' b3'
  go_enter Try.func5, Try.ntmps5
  go_wp2_with (fail)
  rw [← HW.out]
  go_wp2_with (go_at_call 15; fail)
  refine HN.out.mono ?_
  rintro _ W2 ⟨rfl, hB2, hb2⟩
  obtain ⟨c0, c1, c2, c3⟩ := HBX.out W2 hb2
  have HC := Lib.hid (Mine.new (size := size) (order := order) (keep := keep) hB2 hb2 (Nat.le_refl _) HX.out.2.2.2.2)
  obtain ⟨b, hb⟩ : ∃ b, b = W1.heap.size := ⟨_, rfl⟩
  rw [← hb] at HC ⊢
  clear hB2 hb2 HN b0 hb
  go_wp2_with (go_at_call 16; fail)
  refine HC.out.mono ?_
  rintro _ W3 ⟨c, s, o, kp, own, hse, hoe, hke, rfl, hM3⟩
  have HM := Lib.hid hM3
  have HK := Lib.hid (And.intro hse (And.intro hoe hke))
  clear hM3 c0 c1 c2 c3 HC hse hoe hke
  go_wp2_with (fail)
  obtain ⟨i0, z0, hi0, hz0, hz1, hz2, hz3⟩ := info_open i64_info
  go_loopw [9, 10] (fun l i wr => ∃ (ii : Nat) (own : Own?) (C : Ca) (L : List Blk) (A9 : Option Addr) (c9 : Nat) (M : List Nat), ii ≤ T.length ∧ i = .int .i64 (ii : Int) ∧ l = .slice A9 M.length c9 ∧ M.length ≤ ii ∧ M.Nodup ∧ (∀ z, z ∈ M ↔ IsObj C z) ∧ Own64 wr W1.heap.size A9 c9 M ∧ (∀ g, A9.map (·.block) = some g → own g = none) ∧ Mine W1 own c b C N L wr ∧ C.size = s ∧ C.order = o ∧ C.keep = kp) (fun _ i _ => T.length - (intOf i).toNat)
  case atStart =>
    refine ⟨0, own, _, _, none, 0, [], Nat.zero_le _, rfl, rfl, Nat.le_refl _, List.nodup_nil, fun z => ?_, World.ownsRow_nil _ _ _ _, (fun g h => by cases h), HM.out, rfl, rfl, rfl⟩
    constructor
    · intro h; cases h
    · rintro ⟨j, x, i, h1, _⟩
      have h1 : ([] : List Slb)[j]? = some x := h1
      simp at h1
  case round =>
    clear HM
    obtain ⟨ii, own, C, L, A9, c9, M, hii, rfl, rfl, hMl, hnd, hmem, hown, hon, hM, hCs⟩ := hrel
    have e0 : (0 : Int) ≤ (ii : Int) := by omega
    by_cases hlt : ii < T.length
    · have e1 : (ii : Int) < (T.length : Int) := by omega
      have hT100 := HX.out.2.2.1
      have hkk : IntKind.i64.wrap ((ii : Int) + 1) = ((ii + 1 : Nat) : Int) := by rw [IntWalk.i64_in _ (by omega)]; rfl
      obtain ⟨⟨t, nn⟩, hx⟩ : ∃ x, T[ii]? = some x := ⟨_, List.getElem?_eq_getElem hlt⟩
      have hbw : Below w.heap.size w wr := HX.out.1.trans (hM.below.mono (by have := HX.out.2.1; omega))
      obtain ⟨ga, oa, rfl, a0, a1, ht⟩ := act_at HX.out.2.2.2.1 hbw (Nat.le_refl _) hx
      dsimp only at a0 a1 ht
      have hct := HX.out.2.2.2.1.1
      have et0 : (0 : Int) ≤ (t : Int) := by omega
      have et1 : (t : Int) ≤ 255 := by omega
      obtain ⟨m3, hm3⟩ : ∃ m3 : Nat, m3 = t % 3 := ⟨_, rfl⟩
      have hm3i : (t : Int) % 3 = (m3 : Int) := by omega
      have hcap := (own64_at hown).cap
      have hcap1 := (own64_at hown).len
      unfold maxLen at hcap
      have HO := Lib.hid (And.intro hown (And.intro hM (And.intro hnd (And.intro hmem (And.intro hon hCs)))))
      clear hown hM hnd hmem hon hCs hbw hx hm3
      by_cases hfree : m3 = 2 ∧ 0 < M.length
      · obtain ⟨hm2, hpos⟩ := hfree
        have t2 : ((m3 : Int) == 2) = true := by rw [hm2]; rfl
        have t3 : (0 : Int) < (M.length : Int) := by omega
        obtain ⟨g, rfl, hg1, hg2⟩ := own64_some HO.out.1 hpos
        obtain ⟨U, k, hU, hk, hl64, htm, hem, hk64, hki⟩ := pick_nums nn M.length hpos (by omega)
        have HP := Lib.hid (And.intro hU (And.intro hl64 (And.intro htm (And.intro hem (And.intro hk64 hki)))))
        have eU : (0 : Int) ≤ (U : Int) := by omega
        have eL : (0 : Int) ≤ (M.length : Int) := by omega
        have eL2 : (M.length : Int) ≠ 0 := by omega
        clear hU hl64 htm hem hk64 hki hm2
        go_upto_region 14 with (fail)
        go_cut [11] from 66 to 76 (fun kv wx => wx = wr ∧ kv = .int .i64 (k : Int))
        case first =>
          obtain ⟨hU, hl64, htm, hem, hk64, hki⟩ := HP.out
          go_wp2_with (fail)
          go_meet
          exact ⟨rfl, rfl⟩
        case rest =>
          obtain ⟨rfl, rfl⟩ := hcut
          obtain ⟨a, ha⟩ : ∃ a, M[k]? = some a := ⟨_, List.getElem?_eq_getElem hk⟩
          have ha1 := row_at HO.out.1 (n64_get ha)
          have hao : IsObj C a := (HO.out.2.2.2.1 a).1 (List.mem_of_getElem? ha)
          obtain ⟨_, ha66, _⟩ := obj_in HO.out.2.1.held.ok hao
          obtain ⟨sl, L', hf, hobj, hEx⟩ := free_obj HO.out.2.1.held.ok hao
          have hfree := HO.out.2.1.free (at_ := (a : Int)) (by omega) (by omega) hf
          obtain ⟨k1, hk1e⟩ : ∃ k1 : Nat, k1 = k + 1 := ⟨_, rfl⟩
          obtain ⟨M1, hM1⟩ : ∃ M1, M1 = M.take k := ⟨_, rfl⟩
          obtain ⟨M2, hM2⟩ : ∃ M2, M2 = M.drop k1 := ⟨_, rfl⟩
          obtain ⟨M3, hM3⟩ : ∃ M3, M3 = M1 ++ M2 := ⟨_, rfl⟩
          have hl1 : M1.length = k := by rw [hM1, List.length_take]; omega
          have hl2 : M2.length = M.length - k1 := by rw [hM2, List.length_drop]
          have hl3 : M3.length + 1 = M.length := by rw [hM3, List.length_append, hl1, hl2]; omega
          have hM3e : M3 = M.eraseIdx k := by rw [hM3, hM1, hM2, hk1e, List.eraseIdx_eq_take_drop_succ]
          have hnd3 : M3.Nodup := by rw [hM3e]; exact (List.eraseIdx_sublist M k).nodup HO.out.2.2.1
          have hmem3 : ∀ z, z ∈ M3 ↔ IsObj { C with sl := sl } z := fun z => by rw [hM3e, nodup_eraseIdx HO.out.2.2.1 ha, hobj z, HO.out.2.2.2.1 z]
          have HF := Lib.hid hfree
          have HK1 := Lib.hid (And.intro hnd3 (And.intro hmem3 (And.intro hl1 (And.intro hl2 (And.intro hM1 (And.intro hM2 (And.intro hM3 hk1e)))))))
          have e3 : (0 : Int) ≤ (k : Int) := by omega
          have e4 : (k : Int) < (M.length : Int) := by omega
          have hk1 : IntKind.i64.wrap ((k : Int) + 1) = (k1 : Int) := by rw [IntWalk.i64_in _ (by omega)]; omega
          have u0 : (k : Int) ≤ (c9 : Int) := by omega
          have u1 : (0 : Int) ≤ (k1 : Int) := by omega
          have u2 : (k1 : Int) ≤ (M.length : Int) := by omega
          have u3 : (M.length : Int) ≤ (c9 : Int) := by omega
          have hMl3 : M3.length ≤ ii + 1 := by omega
          clear ha hao hf hobj hEx hfree hnd3 hmem3 hl1 hl2 hM1 hM2 hM3 hk1e hM3e
          go_wp2_with (go_at_call 11; fail)
          refine HF.out.mono ?_
          rintro _ W7 ⟨rfl, hM7, hK7⟩
          have hog := HO.out.2.2.2.2.1 g rfl
          have hr7 : Own64 W7 W1.heap.size (some ⟨g, 0, none⟩) c9 M := ⟨HO.out.1.1, by
            rcases HO.out.1.2 with hn | ⟨g', cap, cur, hv, hB, hgg, rest⟩
            · exact .inl hn
            · have e : g = g' := by injection hv with h1; injection h1 with h1; injection h1
              exact .inr ⟨g', cap, cur, hv, hB, by rw [hK7.block g' (by rw [← e]; exact hg2) (by rw [← e]; exact hog)]; exact hgg, rest⟩⟩
          have hat := own64_at hr7
          have hsrc1 : I64At W7 (some ⟨g, 0, none⟩) c9 M1 := by rw [HK1.out.2.2.2.2.1]; exact hat.take
          have hsrc2 : I64At W7 (if c9 = k1 then some ⟨g, 0, none⟩ else some ⟨g, k1, none⟩) (c9 - k1) M2 := by
            by_cases e : c9 = k1
            · have h0 : M2 = [] := List.length_eq_zero_iff.1 (by have := HK1.out.2.2.2.1; omega)
              rw [h0]
              exact ⟨Nat.zero_le _, by unfold maxLen; omega, fun j x hx => by simp at hx⟩
            · rw [if_neg e, HK1.out.2.2.2.2.2.1]
              have := hat.drop (k := k1) (by omega)
              rw [Nat.zero_add] at this
              exact this
          have hrow7 := row_empty64 W7 W7.heap.size (Nat.le_refl _)
          have hW7s : W1.heap.size ≤ W7.heap.size := hM7.below.size
          have H7 := Lib.hid (And.intro hM7 (And.intro hsrc1 (And.intro hsrc2 (And.intro hrow7 (And.intro hW7s hM7.held.fresh)))))
          clear hM7 hK7 hr7 hat hsrc1 hsrc2 hrow7 hW7s ha1
          go_wp2_with (fail)
          go_region_law (first
            | (refine step_append_i64 (by rfl) (.tmp 84) (.tmp 87) (by rfl) W7.heap.size _ [] (by rfl) H7.out.2.2.2.1 (some ⟨g, 0, none⟩) c9 M1 (by rw [HK1.out.2.2.1]; rfl) (H7.out.2.1.below (w' := (W7.alloc (.cells #[] 2)).drew) (below_box W7 _).drew) (fun h => by cases h) (by have := HK1.out.2.2.1; simp; omega) (by show W7.heap.size ≤ (W7.alloc _).heap.size; simp) ?_
               intro A8 c8 w8 hrow8 hgr8
               rw [List.nil_append] at hrow8 ⊢
               have hb8 : Below W7.heap.size W7 w8 := ((below_box W7 _).drew).grown hgr8 (by show W7.heap.size ≤ (W7.alloc _).heap.size; simp) (fun k hk => (H7.out.2.2.2.1.lt k hk).1)
               have H8 := Lib.hid (And.intro hrow8 hb8)
               clear hrow8 hgr8 hb8)
            | (refine step_append_i64 (by rfl) (.tmp 88) (.tmp 92) (by rfl) W7.heap.size _ M1 (by rfl) H8.out.1 (if c9 = k1 then some ⟨g, 0, none⟩ else some ⟨g, k1, none⟩) (c9 - k1) M2 (by rw [HK1.out.2.2.2.1]; rfl) (H7.out.2.2.1.below H8.out.2) (fun h => by split at h <;> cases h) (by have := HK1.out.2.2.1; have := HK1.out.2.2.2.1; omega) H8.out.2.size ?_
               intro A10 c10 w10 hrow10 hgr10
               rw [← HK1.out.2.2.2.2.2.2.1] at hrow10 ⊢
               have hb10 : Below W7.heap.size W7 w10 := H8.out.2.grown hgr10 H8.out.2.size (fun k hk => (H8.out.1.lt k hk).1)
               have H10 := Lib.hid (And.intro hrow10 hb10)
               clear hrow10 hgr10 hb10))
          all_goals
            have hFT : Mine W1 own c b { C with sl := sl } N L' w10 ∧ Own64 w10 W1.heap.size A10 c10 M3 ∧ (∀ g, A10.map (·.block) = some g → own g = none) ∧ M3.Nodup ∧ (∀ z, z ∈ M3 ↔ IsObj { C with sl := sl } z) ∧ C.size = s ∧ C.order = o ∧ C.keep = kp := by
              refine ⟨H7.out.1.step H10.out.2, own64_low H10.out.1 H7.out.2.2.2.2.1, fun z hz => ?_, HK1.out.1, HK1.out.2.1, HO.out.2.2.2.2.2⟩
              refine Classical.byContradiction fun hn => ?_
              have h1 := H7.out.2.2.2.2.2 z hn
              have h2 := (H10.out.1.lt z (by cases A10 with | none => cases hz | some ad => injection hz with hz; rw [← hz]; rfl)).1
              omega
            have HFT := Lib.hid hFT
            clear hFT hMl
            have hMl := hMl3
            clear hMl3
            go_wp2_with (fail)
            all_goals
              have hlenM : (objC { C with sl := sl }).length = M3.length := by
                obtain ⟨q1, q2, q3, q4, q5, _⟩ := HFT.out
                exact ((List.perm_ext_iff_of_nodup ((asc_objC q1.held.ok).imp (fun h => Nat.ne_of_lt h)) q4).2 fun z => by rw [mem_objC, q5 z]).length_eq.trans (by simp)
              have hobj := HFT.out.1.objects
              rw [hlenM] at hobj
              have HOb := Lib.hid hobj
              clear hlenM hobj
              go_wp2_with (go_at_call 19; fail)
              refine HOb.out.mono ?_
              rintro _ W20 ⟨⟨A20, c20, rfl, -⟩, hM20, hb20⟩
              have hkp := kept_ok hM20 keep (by have := HFT.out.2.2.2.2.2.2.2; rw [this]; exact Int.le_of_eq HK.out.2.2.symm)
              have k3 := (HBX.out W20 hM20.below).2.2.2
              have HKp := Lib.hid hkp
              have H20 := Lib.hid hb20
              clear hM20 hb20 hkp HOb
              go_wp2_with (go_at_call 24; fail)
              refine HKp.out.mono ?_
              rintro _ W21 ⟨rfl, hM21, hb21⟩
              have H21 := Lib.hid (And.intro hM21 (below_step H20.out hb21 (Nat.le_refl _)))
              clear hM21 hb21 HKp k3
              go_wp2_with (fail)
              go_roundw
              case rel =>
                obtain ⟨q1, q2, q3, q4, q5, q6⟩ := HFT.out
                exact ⟨ii + 1, own, { C with sl := sl }, L', A10, c10, M3, by omega, by go_num, by first | rfl | simp, by first | (have := hMl; omega) | (have := hMl; rw [List.length_append, List.length_singleton]; omega), q4, q5, row_keep q2 (fun z _ hz => H21.out.2.block z hz), q3, H21.out.1, q6⟩
              case measure => simp [intOf]; omega
      · have hcond : ¬ (m3 = 2 ∧ (0 : Int) < (M.length : Int)) := fun h => hfree ⟨h.1, by omega⟩
        have hgen : ∀ (Q : Prop), (((m3 : Int) == 2) = false → Q) → (((m3 : Int) == 2) = true → ¬ (0 : Int) < (M.length : Int) → Q) → Q := fun Q h1 h2 => by
          by_cases e : m3 = 2
          · exact h2 (by rw [e]; rfl) (fun h => hcond ⟨e, h⟩)
          · exact h1 (by rw [beq_eq_false_iff_ne]; omega)
        clear hcond hfree
        cases ha : allocC C N L with
        | none =>
          have hno := HO.out.2.1.full ha
          have HN2 := Lib.hid hno
          have HA := Lib.hid ha
          clear ha hno
          refine hgen _ (fun t2 => ?_) (fun t2 t3 => ?_)
          all_goals
            go_wp2_with (go_at_call 12; fail)
            refine HN2.out.mono ?_
            rintro _ W6 ⟨rfl, hM6, hK6⟩
            have k2 := (HBX.out W6 hM6.below).2.2.1
            have hfl := full_ok hM6 HA.out
            rw [HO.out.2.2.2.2.2.2.1, ← HK.out.2.1] at hfl
            have HFl := Lib.hid hfl
            have H6 := Lib.hid hK6
            clear hM6 hK6 hfl
            go_wp2_with (go_at_call 22; fail)
            refine HFl.out.mono ?_
            rintro _ W7 ⟨rfl, hM7, hb7⟩
            have H7 := Lib.hid (And.intro hM7 hb7)
            clear hM7 hb7 k2
            go_wp2_with (fail)
            go_roundw
            case rel =>
              refine ⟨ii + 1, own, C, L, A9, c9, M, by omega, by go_num, rfl, by omega, HO.out.2.2.1, HO.out.2.2.2.1, ?_, HO.out.2.2.2.2.1, H7.out.1, HO.out.2.2.2.2.2⟩
              have h1 : Own64 W6 W1.heap.size A9 c9 M := row_own HO.out.1 HO.out.2.2.2.2.1 H6.out
              exact row_keep h1 (fun z _ hz => H7.out.2.block z hz)
            case measure => simp [intOf]; omega
        | some r =>
          obtain ⟨a, sl, L'⟩ := r
          have hobj := alloc_obj HO.out.2.1.held.ok ha
          have HA := Lib.hid (And.intro (HO.out.2.1.alloc ha) hobj)
          clear ha hobj
          refine hgen _ (fun t2 => ?_) (fun t2 t3 => ?_)
          all_goals
            go_wp2_with (go_at_call 12; fail)
            refine HA.out.1.mono ?_
            rintro _ W6 ⟨rfl, own', hM6, hK6⟩
            obtain ⟨k0, k1, k2, k3⟩ := HBX.out W6 hM6.below
            have h1 : Own64 W6 W1.heap.size A9 c9 M := row_own HO.out.1 HO.out.2.2.2.2.1 hK6
            have haC : IsObj { C with sl := sl } a := (HA.out.2.1 a).2 (.inl rfl)
            have hnoM : ¬ a ∈ M := fun h => HA.out.2.2.1 ((HO.out.2.2.2.1 a).1 h)
            have hfit := fits_ok hM6 a haC A9 c9 M (own64_at h1) (fun l hl => ⟨(HA.out.2.1 l).2 (.inr ((HO.out.2.2.2.1 l).1 hl)), fun e => hnoM (e ▸ hl)⟩) P keep
            have es : (({ C with sl := sl } : Ca).size : Int) = size := by have := HO.out.2.2.2.2.2.1; have := HK.out.1; show (C.size : Int) = size; omega
            have eo : (({ C with sl := sl } : Ca).order : Int) = order := by have := HO.out.2.2.2.2.2.2.1; have := HK.out.2.1; show (C.order : Int) = order; omega
            rw [es, eo] at hfit
            have HFi := Lib.hid hfit
            have hon6 : ∀ g, A9.map (·.block) = some g → own' g = none := fun g hg => by
              have hgl : g < wr.heap.size := (HO.out.1.lt g (by cases A9 with | none => cases hg | some ad => injection hg with hg; rw [← hg]; rfl)).2
              rw [hK6.same g hgl]; exact HO.out.2.2.2.2.1 g hg
            have H6 := Lib.hid (And.intro h1 (And.intro hnoM hon6))
            clear hM6 hK6 h1 haC hnoM hfit es eo hon6
            go_wp2_with (go_at_call 23; fail)
            refine HFi.out.mono ?_
            rintro _ W7 ⟨rfl, hM7, hb7⟩
            have hr7 : Own64 W7 W1.heap.size A9 c9 M := row_keep H6.out.1 (fun z _ hz => hb7.block z hz)
            have hW7s := hM7.below.size
            have H7 := Lib.hid (And.intro hM7 hr7)
            clear hM7 hb7 hr7 k0 k1 k2 k3
            go_wp2_with (at_builtin; refine wpList_append_own_at _ rfl (.tmp 117) (.tmp 119) 48 rfl W1.heap.size 2 i0 z0 1 8 Try.underlying48 hi0 hz0 hz1 hz2 hz3 (by omega) (.slice A9 M.length c9) M.length (n64 M) rfl (H7.out.2.alloc _) ⟨W7.heap.size, 0, none⟩ 1 1 [.int .i64 (a : Int)] rfl rfl (cell_one_new _ _ _) (by simp [Value.oneCell']) (by unfold maxLen; omega) (by omega) (by simp; omega) ?_; intro v8 w8 hown8 hgr8 _ hat8; obtain ⟨g8, cap8, rfl⟩ := ownsRow_succ hown8; have H8 := Lib.hid (And.intro hown8 (And.intro hgr8 hat8)); clear hown8 hgr8 hat8)
            have hFT : Mine W1 own' c b { C with sl := sl } N L' w8 ∧ Own64 w8 W1.heap.size (some ⟨g8, 0, none⟩) cap8 (M ++ [a]) ∧ (∀ g, (some (⟨g8, 0, none⟩ : Addr)).map (·.block) = some g → own' g = none) ∧ (M ++ [a]).Nodup ∧ (∀ z, z ∈ M ++ [a] ↔ IsObj { C with sl := sl } z) ∧ C.size = s ∧ C.order = o ∧ C.keep = kp := by
              obtain ⟨q1, q2, q3⟩ := H8.out
              have hM7 := H7.out.1
              have hsz := q2.size
              simp at hsz
              have hal : (W7.alloc (.cells #[.int .i64 (a : Int)] 2)).heap.size = W7.heap.size + 1 := by simp
              have hcell : ∀ z, z < W7.heap.size → (Value.slice A9 M.length c9).ownBlock ≠ some z → w8.heap[z]? = W7.heap[z]? := fun z h1 h2 => (q2.block z (by rw [hal]; omega) (fun e => h2 e.symm)).trans (alloc_old _ _ _ h1)
              have hob : ∀ z, own' z ≠ none → (Value.slice A9 M.length c9).ownBlock ≠ some z := fun z hz e => by
                cases A9 with
                | none => cases e
                | some ad => exact hz (H6.out.2.2 z (by injection e with e; rw [← e]; rfl))
              have hHe : Held w8 own' c b { C with sl := sl } N L' := held_same hM7.held (by omega) (fun z h1 h2 => hcell z h2 (hob z h1))
              have hB7 := hM7.below
              have hBe : Below W1.heap.size W1 w8 := ⟨q2.os.trans hB7.os, q2.tape.trans hB7.tape, q2.output.trans hB7.output, by have := hB7.size; omega, fun z hz => (hcell z (by have := hB7.size; omega) (fun e => by have := (H7.out.2.lt z e).1; omega)).trans (hB7.block z hz)⟩
              have hg8 : own' g8 = none := by
                rcases q3 with e | e
                · refine H6.out.2.2 g8 ?_
                  cases A9 with
                  | none => cases e
                  | some ad => injection e with e; rw [Option.map_some]; exact congrArg some e.symm
                · refine Classical.byContradiction fun hn => ?_
                  have h1 := hM7.held.fresh g8 hn
                  injection e with e
                  rw [hal] at e
                  have e : g8 = W7.heap.size + 1 := e
                  omega
              refine ⟨⟨hHe, hBe, hM7.out⟩, ?_, fun g hg => ?_, ?_, fun z => ?_, HO.out.2.2.2.2.2⟩
              · show w8.ownsRow W1.heap.size 2 1 (.slice (some ⟨g8, 0, none⟩) (M ++ [a]).length cap8) (M ++ [a]).length (n64 (M ++ [a]))
                rw [show (M ++ [a]).length = M.length + 1 by simp, show n64 (M ++ [a]) = n64 M ++ [.int .i64 (a : Int)] by simp [n64]]
                exact q1
              · have e : g8 = g := by injection hg
                rw [← e]; exact hg8
              · rw [List.nodup_append]
                exact ⟨HO.out.2.2.1, by simp, fun x hx y hy e => H6.out.2.1 (by have : y = a := by simpa using hy
                                                                                rw [← this, ← e]; exact hx)⟩
              · rw [List.mem_append, HA.out.2.1 z, HO.out.2.2.2.1 z, List.mem_singleton]
                exact ⟨fun h => h.symm, fun h => h.symm⟩
            have HFT := Lib.hid hFT
            have hMl2 : M.length ≤ ii := hMl
            clear hFT
            go_wp2_with (fail)
            have hlenM : (objC { C with sl := sl }).length = M.length + 1 := by
              obtain ⟨q1, q2, q3, q4, q5, _⟩ := HFT.out
              exact ((List.perm_ext_iff_of_nodup ((asc_objC q1.held.ok).imp (fun h => Nat.ne_of_lt h)) q4).2 fun z => by rw [mem_objC, q5 z]).length_eq.trans (by simp)
            have hobj := HFT.out.1.objects
            rw [hlenM] at hobj
            have HOb := Lib.hid hobj
            clear hlenM hobj
            go_wp2_with (go_at_call 19; fail)
            refine HOb.out.mono ?_
            rintro _ W20 ⟨⟨A20, c20, rfl, -⟩, hM20, hb20⟩
            have hkp := kept_ok hM20 keep (by have := HFT.out.2.2.2.2.2.2.2; rw [this]; exact Int.le_of_eq HK.out.2.2.symm)
            have k3 := (HBX.out W20 hM20.below).2.2.2
            have HKp := Lib.hid hkp
            have H20 := Lib.hid hb20
            clear hM20 hb20 hkp HOb
            go_wp2_with (go_at_call 24; fail)
            refine HKp.out.mono ?_
            rintro _ W21 ⟨rfl, hM21, hb21⟩
            have H21 := Lib.hid (And.intro hM21 (below_step H20.out hb21 (Nat.le_refl _)))
            clear hM21 hb21 HKp k3
            go_wp2_with (fail)
            go_roundw
            case rel =>
              obtain ⟨q1, q2, q3, q4, q5, q6⟩ := HFT.out
              exact ⟨ii + 1, own', { C with sl := sl }, L', (some ⟨g8, 0, none⟩), cap8, (M ++ [a]), by omega, by go_num, by first | rfl | simp, by first | (have := hMl; omega) | (have := hMl; rw [List.length_append, List.length_singleton]; omega), q4, q5, row_keep q2 (fun z _ hz => H21.out.2.block z hz), q3, H21.out.1, q6⟩
            case measure => simp [intOf]; omega
    · obtain rfl : ii = T.length := by omega
      have e1 : ¬ ((T.length : Nat) : Int) < (T.length : Int) := by omega
      have HS := Lib.hid (And.intro (shown_ok wr) hM.below)
      clear hM hnd hmem hown hon hCs
      go_wp2_with (go_at_call 17; refine HS.out.1.mono ?_; rintro _ W9 ⟨rfl, hb9⟩; have H9 := Lib.hid (below_step (HX.out.1.trans (HS.out.2.mono (by have := HX.out.2.1; omega))) hb9 (Nat.le_refl _)); clear hb9)
      go_ret
      exact ⟨rfl, H9.out⟩
end Sl
end Go.Proofs.Ytlknhbcambdccaa
