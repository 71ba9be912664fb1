/- symMerge with one element on the left. -/
import Derived.Test.YtjgakcpjphdicaaK23
import Derived.Test.YtjgakcpjphdicaaJP20
namespace Go.Proofs.Ytjgakcpjphdicaa
open Go.Shelf Go.RowKit Go.Lib Go.Sort Go.Proofs
namespace Of

/-- What a merge leaves. -/
def MergedR {α : Type} [Inhabited α] (enc : α → Value) (lt : α → α → Bool) (blk a b : Nat) (d : Array α) (w0 : World) (e : Ending) (w' : World) : Prop :=
  e = .returned (.tuple #[]) ∧ ∃ d', PermIn a b d d' ∧ SortedIn lt a b d' ∧ SW enc w0 blk 0 d' w'

theorem below_left {α : Type} [Inhabited α] {lt : α → α → Bool} (hS : SWO lt) {m b : Nat} {d : Array α} (h : SortedIn lt m b d) {z x : Nat} {y : α} (h1 : m ≤ z) (h2 : z ≤ x) (h3 : x < b) (hl : lt d[x]! y = true) : lt d[z]! y = true := by
  cases e : lt d[z]! y with
  | true => rfl
  | false =>
    have := hS.ntrans _ _ _ (SortedIn.le hS h h1 h2 h3) e
    rw [hl] at this
    cases this
set_option maxHeartbeats 8000000 in
set_option maxRecDepth 1000000 in
theorem symA_ok {α : Type} [Inhabited α] (enc : α → Value) (lt : α → α → Bool) (hS : SWO lt) (cf : α → α → Int) (g : Nat) (cb : Array Value) (blk cap a m b : Nat) (d0 d : Array α) (w0 w : World)
    (eg : ∀ args w, (callFunc g args).run Try.prog w = .ok (.enter g args) w) (hcmp : CmpLays1 Try.prog g cb enc cf blk 0 d0.size w0) (R : Row1 enc w0 blk 0 d0) (hs : d0.size = d.size) (S : SW enc w0 blk 0 d w)
    (hm : m = a + 1) (hmb : m < b) (hb : b ≤ d.size) (hsz : d.size ≤ 100000) (h2 : SortedIn lt m b d) (hx : ∀ x, m ≤ x → x < b → (cf d[x]! d[a]! < 0 ↔ lt d[x]! d[a]! = true)) :
    Calls Try.prog 88 #[.slice (some ⟨blk, 0, none⟩) d.size cap, .int .i64 (a : Int), .int .i64 (m : Int), .int .i64 (b : Int), .func (.func g) #[] cb] w (MergedR enc lt blk a b d w0) := by
  have mixed : Try.prog.follows .mixedOrders = true := by kernel_rfl
  have hcl0 := R.hO.cells
  simp only [Value.cells] at hcl0
  have hst := R.hO.store Try.prog
  have HC : Aside _ := hcmp
  have S0 : Aside (SW enc w0 blk 0 d w) := S
  have H2 := Lib.hid (And.intro h2 hx)
  have q1 : IntKind.i64.wrap ((m : Int) - (a : Int)) = 1 := by rw [IntKind.wrap_i64]; omega
  have ham : a < m := by omega
  have HM := Lib.hid hm
  clear S hcmp h2 hx hm
  go_enter Try.func88, Try.ntmps88
  go_wp2_with (fail)
  go_loopw [10, 11] (fun iv jv wr => ∃ i j : Nat, m ≤ i ∧ i ≤ j ∧ j ≤ b ∧ iv = .int .i64 (i : Int) ∧ jv = .int .i64 (j : Int) ∧ Aside (SW enc w0 blk 0 d wr) ∧ (∀ x, m ≤ x → x < i → lt d[x]! d[a]! = true) ∧ (∀ x, j ≤ x → x < b → lt d[x]! d[a]! = false)) (fun iv jv _ => (intOf jv).toNat - (intOf iv).toNat)
  case atStart => exact ⟨m, b, by omega, by omega, by omega, rfl, rfl, S0, fun x h1 h2 => by omega, fun x h1 h2 => by omega⟩
  case round =>
    clear S0
    obtain ⟨i, j, hi, hij, hjb, rfl, rfl, S1, hlo, hhi⟩ := hrel
    have HB := Lib.hid (And.intro hlo hhi)
    clear hlo hhi
    by_cases hlt : i < j
    · go_wp2_with (fail)
      obtain ⟨h, hh⟩ : ∃ h : Nat, h = (i + j) / 2 := ⟨_, rfl⟩
      have eh : ((i : Int) + (j : Int)) / 2 = (h : Int) := by omega
      have h1 : i ≤ h := by omega
      have h2 : h < j := by omega
      rw [eh]
      have ph : (0 : Int) ≤ (h : Int) := by omega
      have bh : (h : Int) < (d.size : Int) := by omega
      have pa : (0 : Int) ≤ (a : Int) := by omega
      have ba : (a : Int) < (d.size : Int) := by omega
      have lh := S1.out.cl R hs.symm h (by omega)
      have la := S1.out.cl R hs.symm a (by omega)
      rw [Nat.zero_add] at lh la
      have hxx := H2.out.2 h (by omega) (by omega)
      obtain ⟨x, hx⟩ : ∃ x, x = d[h]! := ⟨_, rfl⟩
      obtain ⟨y, hy⟩ : ∃ y, y = d[a]! := ⟨_, rfl⟩
      rw [← hx] at lh
      rw [← hy] at la
      rw [← hx, ← hy] at hxx
      have hc := S1.out.cmp HC.out hs.symm x y
      have HXY := Lib.hid (And.intro hx hy)
      clear hx hy hh eh
      by_cases hv : cf x y < 0
      · have hl := hxx.1 hv
        have hd : decide (cf x y < 0) = true := decide_eq_true hv
        have HL := Lib.hid hl
        clear hl hxx
        go_quiet_grown (first | (go_at_fn g; refine Calls.grown_of (hc _ _)))
        have S2 : Aside (SW enc w0 blk 0 d (grow (wr.drewN nq) osq)) := S1.out.grown nq osq
        clear lh la hc S1
        generalize grow (wr.drewN nq) osq = w2 at S2 ⊢
        clear nq osq
        go_wp2
        go_roundw
        case rel => exact ⟨h + 1, j, by omega, by omega, hjb, by go_num, rfl, S2, fun z h3 h4 => by
            by_cases hz : z < i
            · exact HB.out.1 z h3 hz
            · rw [HXY.out.1, HXY.out.2] at HL
              exact below_left hS H2.out.1 h3 (by omega) (by omega) HL.out, HB.out.2⟩
        case measure => simp [intOf]; omega
      · have hl : lt x y = false := by
          cases e : lt x y with
          | false => rfl
          | true => exact absurd (hxx.2 e) hv
        have hd : decide (cf x y < 0) = false := decide_eq_false hv
        have HL := Lib.hid hl
        clear hl hxx
        go_quiet_grown (first | (go_at_fn g; refine Calls.grown_of (hc _ _)))
        have S2 : Aside (SW enc w0 blk 0 d (grow (wr.drewN nq) osq)) := S1.out.grown nq osq
        clear lh la hc S1
        generalize grow (wr.drewN nq) osq = w2 at S2 ⊢
        clear nq osq
        go_wp2
        go_roundw
        case rel => exact ⟨i, h, hi, h1, by omega, rfl, rfl, S2, HB.out.1, fun z h3 h4 => by
            rw [HXY.out.1, HXY.out.2] at HL
            exact hS.ntrans _ _ _ (SortedIn.le hS H2.out.1 (by omega) h3 h4) HL.out⟩
        case measure => simp [intOf]; omega
    · obtain rfl : i = j := by omega
      have w1 : IntKind.i64.wrap ((i : Int) - 1) = ((i - 1 : Nat) : Int) := by rw [IntKind.wrap_i64]; omega
      obtain ⟨i1, hi1⟩ : ∃ z, z = i - 1 := ⟨_, rfl⟩
      rw [← hi1] at w1
      have ei1 : i1 + 1 = i := by omega
      have HI1 := Lib.hid hi1
      clear hi1 hlt
      go_wp2_with (fail)
      go_loopw [13] (fun kv wr2 => ∃ (k : Nat) (dk : Array α), a ≤ k ∧ k ≤ i1 ∧ kv = .int .i64 (k : Int) ∧ Aside (SW enc w0 blk 0 dk wr2) ∧ Hid (Up a b d k dk)) (fun kv _ => i1 - (intOf kv).toNat)
      case atStart => exact ⟨a, d, Nat.le_refl _, by omega, rfl, S1, Up.start a b d⟩
      case round =>
        clear S1
        obtain ⟨k, dk, hak, hk, rfl, SK, HU⟩ := hrel
        have hds : dk.size = d.size := HU.out.perm.1
        by_cases hkl : k < i1
        · have hnx := HU.out.step hak (by omega) hb
          have HN := Lib.hid hnx
          clear hnx
          go_wp2_with fail
          have rb : IntKind.i64.wrap ((k : Int) + 1) = (k : Int) + 1 := by rw [IntKind.wrap_i64]; omega
          have pa : (0 : Int) ≤ (k : Int) := by omega
          have ba : (k : Int) < (d.size : Int) := by omega
          have pb : (0 : Int) ≤ (k : Int) + 1 := by omega
          have bb : (k : Int) + 1 < (d.size : Int) := by omega
          have tb : ((k : Int) + 1).toNat = k + 1 := by omega
          obtain ⟨x, hx⟩ : ∃ x, x = dk[k]! := ⟨_, rfl⟩
          obtain ⟨y, hy⟩ : ∃ x, x = dk[k + 1]! := ⟨_, rfl⟩
          have T2 : Aside (SW enc w0 blk 0 (swp dk k (k + 1)) ((wr.setCell ⟨blk, 0 + k, none⟩ (enc y)).setCell ⟨blk, 0 + (k + 1), none⟩ (enc x)).drew) := by rw [hx, hy]; exact SK.out.swapped R k (k + 1) (by omega) (by omega)
          have c1a := SK.out.c1 R (by omega) k (by omega)
          have c1b := SK.out.c1 R (by omega) (k + 1) (by omega)
          have f1a := SK.out.f1 R (by omega) k (by omega)
          have f1b := SK.out.f1 R (by omega) (k + 1) (by omega)
          obtain ⟨u, c1c⟩ := SK.out.c2 R (by omega) k (k + 1) (by omega) (by omega) (enc y)
          rw [← hx] at c1a
          rw [← hy] at c1b
          rw [Nat.zero_add] at c1a c1b f1a f1b
          simp only [Nat.zero_add] at T2 c1c
          clear SK hx hy
          go_big_region_o
          clear c1a c1b c1c f1a f1b
          generalize ((wr.setCell ⟨blk, k, none⟩ (enc y)).setCell ⟨blk, k + 1, none⟩ (enc x)).drew = w2 at T2 ⊢
          go_wp2
          go_roundw
          case rel => exact ⟨k + 1, _, by omega, by omega, by go_num, T2, HN.out⟩
          case measure => simp [intOf]; omega
        · obtain rfl : k = i1 := by omega
          go_wp2
          go_end0
          refine ⟨rfl, dk, HU.out.perm, ?_, SK.out⟩
          have e1 := HI1.out
          rw [e1] at HU
          exact HU.out.sorted hS (by omega) hjb (by rw [← HM.out]; exact H2.out.1) (by rw [← HM.out]; exact HB.out.1) HB.out.2
end Of
end Go.Proofs.Ytjgakcpjphdicaa
