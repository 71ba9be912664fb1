/- SlabsDisjoint: fits. -/
import Derived.Test.YtlknhbcambdccaaJYE
namespace Go.Proofs.Ytlknhbcambdccaa
open Go.RowKit
namespace Sl
open Bu

/-- A slab's block has all of the bytes of an object. -/
def hasB (size y a : Nat) (x : Slb) : Bool := decide (64 * x.pg ≤ a ∧ a + size ≤ 64 * x.pg + y)
def anyB (size y a : Nat) (l : List Slb) : Bool := l.any (hasB size y a)
theorem anyB_take {size y a : Nat} {l : List Slb} {k : Nat} {x : Slb} (hx : l[k]? = some x) : anyB size y a (l.take (k + 1)) = (anyB size y a (l.take k) || hasB size y a x) := by
  obtain ⟨hk, he⟩ := List.getElem?_eq_some_iff.1 hx
  unfold anyB
  rw [List.take_succ_eq_append_getElem hk, he, List.any_append]
  simp

set_option maxRecDepth 100000 in
set_option maxHeartbeats 8000000 in
theorem fits_ok {w W : World} {own : Own?} {c b : Nat} {C : Ca} {N : Nat} {L : List Blk} (h : Mine w own c b C N L W) (a : Nat) (ha : IsObj C a) (A : Option Addr) (cl : Nat) (live : List Nat) (hl : I64At W A cl live) (hlv : ∀ l ∈ live, IsObj C l ∧ a ≠ l) (P : Nat) (keep : Int) :
    Calls Try.prog 23 #[.pointer (some ⟨c, 0, none⟩), .slice A live.length cl, .int .i64 (a : Int), .agg #[.int .u8 (P : Int), .int .i64 (C.size : Int), .int .i64 (C.order : Int), .int .i64 keep]] W fun e W' => e = .returned (.bool true) ∧ Mine w own c b C N L W' ∧ Below W.heap.size W W' := by
  obtain ⟨h8, ha66, hin⟩ := obj_in h.held.ok ha
  have hsz1 := h.held.ok.sz.2.1
  have hsz8 := h.held.ok.sz.1
  have hod := h.held.ok.od
  have hsl := ok_len h.held.ok
  have hfar : ∀ l ∈ live, l < 66000 ∧ (a + C.size ≤ l ∨ l + C.size ≤ a) := fun l hm => ⟨(obj_in h.held.ok (hlv l hm).1).2.1, obj_far h.held.ok ha (hlv l hm).1 (hlv l hm).2⟩
  have hpg : ∀ x ∈ C.sl, x.pg ≤ 1024 := fun x hx => by
    have h2 : x.pg + 2 ^ C.order ≤ 1024 := (st_le h.held.ok.st _ (h.held.ok.giv x hx)).2
    omega
  obtain ⟨y, hy⟩ : ∃ y : Nat, y = 64 * 2 ^ C.order := ⟨_, rfl⟩
  have hsh : wrap64 ((64 : Int) * 2 ^ C.order) = (y : Int) := by rw [hy]; exact shl_w64 _ hod
  have hsh2 : wrap64 ((64 : Int) * 2 ^ min C.order 64) = (y : Int) := by rw [show min C.order 64 = C.order by omega]; exact hsh
  have hy2 : y ≤ 1024 := by
    have : 2 ^ C.order ≤ 2 ^ 4 := Nat.pow_le_pow_right (by decide) hod
    omega
  have hany : anyB C.size y a C.sl = true := by
    obtain ⟨x, hx, h1, h2⟩ := hin
    unfold anyB hasB
    rw [List.any_eq_true]
    exact ⟨x, hx, by rw [decide_eq_true_eq, hy]; exact ⟨h1, h2⟩⟩
  obtain ⟨W1, hW1⟩ : ∃ W1, W1 = W.alloc (.cells #[.int .u8 (P : Int), .int .i64 (C.size : Int), .int .i64 (C.order : Int), .int .i64 keep] 42) := ⟨_, rfl⟩
  have hb1 : Below W.heap.size W W1 := by rw [hW1]; exact below_box W _
  have hB1 : W1.heap[W.heap.size]? = some (.cells #[.int .u8 (P : Int), .int .i64 (C.size : Int), .int .i64 (C.order : Int), .int .i64 keep] 42 (0, 0)) := by rw [hW1, heapAlloc, if_pos rfl]
  have hl1 := hl.below hb1
  have hll := hl.len
  have hlc := hl.cap
  unfold maxLen at hlc
  have b1 : W1.cell? ⟨W.heap.size, 1, none⟩ = some (.int .i64 (C.size : Int)) := by rw [cell_of_row _ _ _ _ _ _ hB1]; rfl
  obtain ⟨s, hs⟩ : ∃ s, s = C.size := ⟨_, rfl⟩
  obtain ⟨o, ho⟩ : ∃ o, o = C.order := ⟨_, rfl⟩
  obtain ⟨n, hn⟩ : ∃ n, n = C.sl.length := ⟨_, rfl⟩
  have hM1 := h.step hb1
  have HM1 := Lib.hid hM1
  have HX := Lib.hid (And.intro hb1 (And.intro hB1 (And.intro hl1 (And.intro hfar (And.intro hpg (And.intro hany (And.intro hn (And.intro hs ho))))))))
  rw [← hs, ← ho] at hW1
  have HW := Lib.hid hW1
  have hmod : (a : Int) % 8 = 0 := by omega
  have e0a : (0 : Int) ≤ (a : Int) := by omega
  have hsum : IntKind.i64.wrap ((a : Int) + (s : Int)) = (a : Int) + (s : Int) := IntWalk.i64_in _ (by omega)
  obtain ⟨B1, hBe⟩ : ∃ B1, B1 = W.heap.size := ⟨_, rfl⟩
  have HB := Lib.hid hBe
  rw [← hBe] at b1
  rw [← hs] at b1 hsz1 hsz8 ⊢
  rw [← ho] at hsh hsh2 hod ⊢
  rw [← hn] at hsl
  have e0o : (0 : Int) ≤ (o : Int) := by omega
  clear hl1 hfar hpg hany hb1 hB1 hW1 hM1 hl hlv ha hin h hs ho hn hBe hy
  go_enter Try.func23, Try.ntmps23
  go_wp2_with (fail)
  rw [← HW.out, ← HB.out]
  go_loopw [9] (fun i wr => ∃ k : Nat, k ≤ live.length ∧ i = .int .i64 (k : Int) ∧ ∃ d, wr = W1.drewN d) (fun i _ => live.length - (intOf i).toNat)
  case atStart => exact ⟨0, Nat.zero_le _, rfl, 0, rfl⟩
  case round =>
    obtain ⟨k, hk, rfl, d, hwr⟩ := hrel
    have e0 : (0 : Int) ≤ (k : Int) := by omega
    have b1r : wr.cell? ⟨B1, 1, none⟩ = some (.int .i64 (s : Int)) := by rw [hwr]; exact b1
    have hkk : k < live.length → IntKind.i64.wrap ((k : Int) + 1) = ((k + 1 : Nat) : Int) := fun hlt => by rw [IntWalk.i64_in _ (by omega)]; rfl
    by_cases hlt : k < live.length
    · have e1 : (k : Int) < (live.length : Int) := by omega
      replace hkk := hkk hlt
      obtain ⟨l, hlk⟩ : ∃ l, live[k]? = some l := ⟨_, List.getElem?_eq_getElem hlt⟩
      obtain ⟨g, og, rfl, hg, d0⟩ := HX.out.2.2.1.at_ k l hlk
      replace d0 : wr.cell? ⟨g, og + k, none⟩ = some (.int .i64 (l : Int)) := by rw [hwr]; exact d0
      obtain ⟨hl66, hf⟩ := HX.out.2.2.2.1 l (List.mem_of_getElem? hlk)
      rw [← HX.out.2.2.2.2.2.2.2.1] at hf
      have hlsum : IntKind.i64.wrap ((l : Int) + (s : Int)) = (l : Int) + (s : Int) := IntWalk.i64_in _ (by omega)
      have HR := Lib.hid hwr
      clear hwr hlk
      rcases hf with hf | hf
      · have t1 : (a : Int) < (l : Int) + (s : Int) := by omega
        have t2 : ¬ (l : Int) < (a : Int) + (s : Int) := by omega
        have t3 : decide ((l : Int) < (a : Int) + (s : Int)) = false := by simpa using t2
        have t4 : decide ((a : Int) < (l : Int) + (s : Int)) = true := by simpa using t1
        go_wp2_with (fail)
        go_quiet (fail)
        go_wp2
        go_roundw
        case rel => exact ⟨k + 1, by omega, by go_num, _, by rw [HR.out]; exact World.drewN_drewN ..⟩
        case measure => simp [intOf]; omega
      · have t2 : ¬ (a : Int) < (l : Int) + (s : Int) := by omega
        have t3 : decide ((a : Int) < (l : Int) + (s : Int)) = false := by simpa using t2
        go_wp2_with (fail)
        go_quiet (fail)
        go_wp2
        go_roundw
        case rel => exact ⟨k + 1, by omega, by go_num, _, by rw [HR.out]; exact World.drewN_drewN ..⟩
        case measure => simp [intOf]; omega
    · have e1 : ¬ (k : Int) < (live.length : Int) := by omega
      clear hkk
      have HR := Lib.hid hwr
      have hSl : Calls Try.prog 14 #[.pointer (some ⟨c, 0, none⟩)] wr fun e W' => (∃ A cp, e = .returned (.tuple #[.slice A C.sl.length cp, .int .i64 0]) ∧ ViewAt W' A cp C.sl) ∧ Mine w own c b C N L W' ∧ Below W1.heap.size W1 W' := by
        have hM := HM1.out.step (below_drew W1 d)
        rw [← hwr] at hM
        refine hM.slabs.mono ?_
        rintro e W' ⟨⟨A, cp, he, hr⟩, hM', hb'⟩
        refine ⟨⟨A, cp, he, view_of hr⟩, hM', ?_⟩
        have hbd := below_drew W1 d
        rw [← hwr] at hbd
        exact below_step hbd hb' (Nat.le_refl _)
      rw [← HX.out.2.2.2.2.2.2.1] at hSl
      have HSl := Lib.hid hSl
      clear hSl hwr
      go_wp2_with (go_at_call 14; fail)
      refine HSl.out.mono ?_
      rintro _ W2 ⟨⟨A2, cp, rfl, hV⟩, hM2, hb2⟩
      have hcp := hV.1
      have hcm := hV.2.1
      unfold maxLen at hcm
      rw [← HX.out.2.2.2.2.2.2.1] at hcp
      have c1 := (hb2.cell (p := ⟨B1, 1, none⟩) (World.block_lt_of_cell? W1 _ b1)).trans b1
      have hB12 := (hb2.block B1 (World.block_lt_of_cell? W1 _ b1))
      have c2 : W2.cell? ⟨B1, 2, none⟩ = some (.int .i64 (o : Int)) := by
        have hb := HX.out.2.1
        rw [← HB.out] at hb
        rw [cell_of_row _ _ _ _ _ _ (hB12.trans hb), ← HX.out.2.2.2.2.2.2.2.2]; rfl
      have H2 := Lib.hid (And.intro hV.2.2 (And.intro hM2 hb2))
      clear hV hM2 hb2 hB12 HSl b1r b1
      go_wp2_with (fail)
      go_loop [12, 13, 14] (fun v i _ => ∃ k : Nat, k ≤ n ∧ i = .int .i64 (k : Int) ∧ v = .bool (anyB s y a (C.sl.take k))) (fun _ i _ => n - (intOf i).toNat)
      case atStart => exact ⟨0, Nat.zero_le _, rfl, rfl⟩
      case round =>
        obtain ⟨k2, hk2, rfl, rfl⟩ := hrel
        have e2 : (0 : Int) ≤ (k2 : Int) := by omega
        by_cases hlt2 : k2 < n
        · have e3 : (k2 : Int) < (n : Int) := by omega
          obtain ⟨x, hx⟩ : ∃ x, C.sl[k2]? = some x := ⟨_, List.getElem?_eq_getElem (by have := HX.out.2.2.2.2.2.2.1; omega)⟩
          obtain ⟨g2, rfl, d0, _⟩ := H2.out.1 k2 x hx
          have hxp := HX.out.2.2.2.2.1 x (List.mem_of_getElem? hx)
          have hkk2 : IntKind.i64.wrap ((k2 : Int) + 1) = ((k2 + 1 : Nat) : Int) := by rw [IntWalk.i64_in _ (by omega)]; rfl
          have hnx := anyB_take (size := s) (y := y) (a := a) hx
          obtain ⟨pr, hpr⟩ : ∃ pr, pr = anyB s y a (C.sl.take k2) := ⟨_, rfl⟩
          obtain ⟨pg, hpg⟩ : ∃ pg, pg = x.pg := ⟨_, rfl⟩
          have hm64 : IntKind.i64.wrap ((pg : Int) * 64) = (pg : Int) * 64 := IntWalk.i64_in _ (by omega)
          have hpy : IntKind.i64.wrap ((pg : Int) * 64 + (y : Int)) = (pg : Int) * 64 + (y : Int) := IntWalk.i64_in _ (by omega)
          unfold hasB at hnx
          rw [← hpg] at d0 hnx
          rw [← hpr] at hnx ⊢
          have HNx := Lib.hid hnx
          clear hnx hpr hpg hx
          cases pr with
          | true =>
            go_wp2
            go_round
            case rel => exact ⟨k2 + 1, by omega, by go_num, by rw [HNx.out]; rfl⟩
            case measure => simp [intOf]; omega
          | false =>
            by_cases h1 : (pg : Int) * 64 ≤ (a : Int)
            · by_cases h2 : (a : Int) + (s : Int) ≤ (pg : Int) * 64 + (y : Int)
              · have hv : decide (64 * pg ≤ a ∧ a + s ≤ 64 * pg + y) = true := decide_eq_true ⟨by omega, by omega⟩
                have HV := Lib.hid hv
                clear hv
                go_wp2
                go_round
                case rel => exact ⟨k2 + 1, by omega, by go_num, by rw [HNx.out, HV.out]; rfl⟩
                case measure => simp [intOf]; omega
              · have hv : decide (64 * pg ≤ a ∧ a + s ≤ 64 * pg + y) = false := decide_eq_false fun h => h2 (by omega)
                have HV := Lib.hid hv
                clear hv
                go_wp2
                go_round
                case rel => exact ⟨k2 + 1, by omega, by go_num, by rw [HNx.out, HV.out]; rfl⟩
                case measure => simp [intOf]; omega
            · have hv : decide (64 * pg ≤ a ∧ a + s ≤ 64 * pg + y) = false := decide_eq_false fun h => h1 (by omega)
              have HV := Lib.hid hv
              clear hv
              go_wp2
              go_round
              case rel => exact ⟨k2 + 1, by omega, by go_num, by rw [HNx.out, HV.out]; rfl⟩
              case measure => simp [intOf]; omega
        · obtain rfl : k2 = n := by omega
          have e3 : ¬ ((k2 : Nat) : Int) < (k2 : Int) := by omega
          have hall : anyB s y a (C.sl.take k2) = true := by
            rw [HX.out.2.2.2.2.2.2.1, List.take_length, HX.out.2.2.2.2.2.2.2.1]
            exact HX.out.2.2.2.2.2.1
          rw [hall]
          clear hall
          go_wp2
          go_ret
          exact ⟨rfl, H2.out.2.1, below_step HX.out.1 H2.out.2.2 (Nat.le_refl _)⟩
end Sl
end Go.Proofs.Ytlknhbcambdccaa
