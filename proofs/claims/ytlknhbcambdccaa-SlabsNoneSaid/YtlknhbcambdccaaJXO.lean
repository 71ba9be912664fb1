/- The examples of the document: example, shown. -/
import Derived.Test.YtlknhbcambdccaaK32
namespace Go.Proofs.Ytlknhbcambdccaa
open Go.RowKit
namespace Sl
open Bu

def exS : Nat → List Slb
  | 0 => []
  | 1 => [⟨0, [true, false]⟩]
  | 2 => [⟨0, [true, true]⟩]
  | _ => [⟨0, [true, true]⟩, ⟨1, [true, false]⟩]
def exL : Nat → List Blk
  | 0 => []
  | 1 => [(0, 0)]
  | 2 => [(0, 0)]
  | _ => [(0, 0), (1, 0)]
def exA : Nat → Nat
  | 0 => 0
  | 1 => 24
  | _ => 64
def exC (k : Nat) : Ca := ⟨24, 0, 0, exS k⟩
theorem ex0 : allocC (exC 0) 3 (exL 0) = some (0, exS 1, exL 1) := by kernel_rfl
theorem ex1 : allocC (exC 1) 3 (exL 1) = some (24, exS 2, exL 2) := by kernel_rfl
theorem ex2 : allocC (exC 2) 3 (exL 2) = some (64, exS 3, exL 3) := by kernel_rfl
theorem ex_step : ∀ k, k < 3 → allocC (exC k) 3 (exL k) = some (exA k, exS (k + 1), exL (k + 1))
  | 0, _ => ex0
  | 1, _ => ex1
  | 2, _ => ex2
theorem ex_sizes : sizesB 24 0 0 = true := by kernel_rfl

theorem three_new (W : World) (x y z : Value) (T : TypeId) : (W.alloc (.cells #[x, y, z] T)).heap[W.heap.size]? = some (.cells #[x, y, z] T (0, 0)) := by rw [heapAlloc, if_pos rfl]

/-- What example leaves. -/
def ExR (w : World) (e : Ending) (w' : World) : Prop := ∃ own c b, e = .returned (.pointer (some ⟨c, 0, none⟩)) ∧ Mine w own c b (exC 3) 3 (exL 3) w'

set_option maxRecDepth 100000 in
set_option maxHeartbeats 4000000 in
theorem example_ok (w : World) : Calls Try.prog 10 #[] w fun e w' => ExR w e w' := by
  have HN := Lib.hid (newL_ok w 3 (by decide))
  have HC := Lib.hid (fun (W : World) (h1 : BuL W w.heap.size 3 []) (h2 : Below w.heap.size w W) => Mine.new (size := 24) (order := 0) (keep := 0) h1 h2 (Nat.le_refl _) ex_sizes)
  go_enter Try.func10, Try.ntmps10
  go_wp2_with (go_at_call 15; fail)
  refine HN.out.mono ?_
  rintro e W1 ⟨rfl, hB1, hb1⟩
  have HC1 := Lib.hid (HC.out W1 hB1 hb1)
  clear hB1 hb1
  go_wp2_with (go_at_call 16; fail)
  refine HC1.out.mono ?_
  rintro e W2 ⟨c, s, o, k, own, hs, ho, hk, rfl, hM⟩
  have hM2 : Mine w own c w.heap.size (exC 0) 3 (exL 0) W2 := by
    have e1 : s = 24 := by omega
    have e2 : o = 0 := by omega
    have e3 : k = 0 := by omega
    subst e1; subst e2; subst e3
    exact hM
  have HM := Lib.hid hM2
  clear hs ho hk hM hM2 HC1 HN HC
  go_wp2_with (fail)
  obtain ⟨W3, hW3⟩ : ∃ W3, W3 = W2.alloc (.cells #[.int .i64 0, .int .i64 24, .int .i64 64] 96) := ⟨_, rfl⟩
  have hb3 : Below W2.heap.size W2 W3 := by rw [hW3]; exact below_box _ _
  have hM3 := HM.out.step hb3
  have hn3 : own W2.heap.size = none := by
    refine Classical.byContradiction fun hn => ?_
    have := HM.out.held.fresh _ hn
    omega
  have ha3 : W3.heap[W2.heap.size]? = some (.cells #[.int .i64 0, .int .i64 24, .int .i64 64] 96 (0, 0)) := by rw [hW3]; exact three_new _ _ _ _ _
  generalize W2.heap.size = na at *
  rw [← hW3]
  have H3 := Lib.hid (And.intro hM3 (And.intro hn3 ha3))
  clear hW3 hb3 hM3 hn3 ha3
  go_loopw [6] (fun i wr => ∃ (k : Nat) (own : Own?), k ≤ 3 ∧ i = .int .i64 (k : Int) ∧ Mine w own c w.heap.size (exC k) 3 (exL k) wr ∧ own na = none ∧ wr.heap[na]? = some (.cells #[.int .i64 0, .int .i64 24, .int .i64 64] 96 (0, 0))) (fun i _ => 3 - (intOf i).toNat)
  case atStart => exact ⟨0, own, by omega, rfl, H3.out.1, H3.out.2.1, H3.out.2.2⟩
  case round =>
    obtain ⟨k, own, hk, rfl, hM, hna, har⟩ := hrel
    have e0 : (0 : Int) ≤ (k : Int) := by omega
    by_cases hlt : k < 3
    · have e1 : (k : Int) < 3 := by omega
      have hkk : IntKind.i64.wrap ((k : Int) + 1) = ((k + 1 : Nat) : Int) := by rw [IntWalk.i64_in _ (by omega)]; rfl
      have hal := hM.alloc (ex_step k hlt)
      have hcell : ∀ W : World, W.heap[na]? = some (.cells #[.int .i64 0, .int .i64 24, .int .i64 64] 96 (0, 0)) → W.cell? ⟨na, k, none⟩ = some (.int .i64 (exA k : Int)) := fun W hW => by
        rw [cell_of_row _ _ _ _ _ _ hW]
        match k, hlt with
        | 0, _ => rfl
        | 1, _ => rfl
        | 2, _ => rfl
      obtain ⟨ak, hak⟩ : ∃ ak, ak = exA k := ⟨_, rfl⟩
      rw [← hak] at hal hcell
      have HA := Lib.hid (And.intro hal (And.intro hcell (And.intro hna (And.intro har (lt_of_heap har)))))
      clear hal hcell hna har hM hak
      go_wp2_with (go_at_call 12; fail)
      refine HA.out.1.mono ?_
      rintro e W4 ⟨rfl, own', hM, hK⟩
      have har : W4.heap[na]? = _ := (hK.block na HA.out.2.2.2.2 HA.out.2.2.1).trans HA.out.2.2.2.1
      have hcl := HA.out.2.1 W4 har
      have H4 := Lib.hid (And.intro hM (And.intro ((hK.same na HA.out.2.2.2.2).trans HA.out.2.2.1) har))
      clear hM hK har
      go_wp2
      go_roundw
      case rel => exact ⟨k + 1, own', by omega, by go_num, H4.out.1, H4.out.2.1, H4.out.2.2⟩
      case measure => simp [intOf]; omega
    · obtain rfl : k = 3 := by omega
      have HM3 := Lib.hid hM
      clear hM hna har
      go_wp2
      go_ret
      exact ⟨own, c, w.heap.size, rfl, HM3.out⟩
end Sl
end Go.Proofs.Ytlknhbcambdccaa
