/- symMerge with one element on the right. -/
import Derived.Test.YtjgakcpjphdicaaJQ3
namespace Go.Proofs.Ytjgakcpjphdicaa
open Go.Shelf Go.RowKit Go.Lib Go.Sort Go.Proofs
namespace Of

set_option maxHeartbeats 8000000 in
set_option maxRecDepth 1000000 in
theorem symB_ok {α : Type} [Inhabited α] (enc : α → Value) (lt : α → α → Bool) (hS : SWO lt) (cf : α → α → Int) (g : Nat) (cb : Array Value) (blk cap a m b : Nat) (d0 d : Array α) (w0 w : World)
    (eg : ∀ args w, (callFunc g args).run Try.prog w = .ok (.enter g args) w) (hcmp : CmpLays1 Try.prog g cb enc cf blk 0 d0.size w0) (R : Row1 enc w0 blk 0 d0) (hs : d0.size = d.size) (S : SW enc w0 blk 0 d w)
    (ham : a + 1 < m) (hm : b = m + 1) (hb : b ≤ d.size) (hsz : d.size ≤ 100000) (h1 : SortedIn lt a m d) (hx : ∀ y, a ≤ y → y < m → (cf d[m]! d[y]! < 0 ↔ lt d[m]! d[y]! = true)) :
    Calls Try.prog 88 #[.slice (some ⟨blk, 0, none⟩) d.size cap, .int .i64 (a : Int), .int .i64 (m : Int), .int .i64 (b : Int), .func (.func g) #[] cb] w (MergedR enc lt blk a b d w0) := by
  have mixed : Try.prog.follows .mixedOrders = true := by kernel_rfl
  have hcl0 := R.hO.cells
  simp only [Value.cells] at hcl0
  have hst := R.hO.store Try.prog
  have HC : Aside _ := hcmp
  have S0 : Aside (SW enc w0 blk 0 d w) := S
  have H2 := Lib.hid (And.intro h1 hx)
  obtain ⟨na, hna⟩ : ∃ z, z = m - a := ⟨_, rfl⟩
  have q0 : IntKind.i64.wrap ((m : Int) - (a : Int)) = (na : Int) := by rw [IntKind.wrap_i64]; omega
  have q2 : ((na : Int) == 1) = false := beq_eq_false_iff_ne.2 (by omega)
  have q1 : IntKind.i64.wrap ((b : Int) - (m : Int)) = 1 := by rw [IntKind.wrap_i64]; omega
  have hmb : m < b := by omega
  have HM := Lib.hid hm
  clear S hcmp h1 hx hm hna
  go_enter Try.func88, Try.ntmps88
  go_wp2_with (fail)
  go_loopw [14, 15] (fun iv jv wr => ∃ i j : Nat, a ≤ i ∧ i ≤ j ∧ j ≤ m ∧ iv = .int .i64 (i : Int) ∧ jv = .int .i64 (j : Int) ∧ Aside (SW enc w0 blk 0 d wr) ∧ (∀ x, a ≤ x → x < i → lt d[m]! d[x]! = false) ∧ (∀ x, j ≤ x → x < m → lt d[m]! d[x]! = true)) (fun iv jv _ => (intOf jv).toNat - (intOf iv).toNat)
  case atStart => exact ⟨a, m, by omega, by omega, by omega, rfl, rfl, S0, fun x h1 h2 => by omega, fun x h1 h2 => by omega⟩
  case round =>
    clear S0
    obtain ⟨i, j, hi, hij, hjm, rfl, rfl, S1, hlo, hhi⟩ := hrel
    have HB := Lib.hid (And.intro hlo hhi)
    clear hlo hhi
    by_cases hlt : i < j
    · go_wp2_with (fail)
      obtain ⟨h, hh⟩ : ∃ h : Nat, h = (i + j) / 2 := ⟨_, rfl⟩
      have eh : ((i : Int) + (j : Int)) / 2 = (h : Int) := by omega
      have h1 : i ≤ h := by omega
      have h2 : h < j := by omega
      rw [eh]
      have ph : (0 : Int) ≤ (h : Int) := by omega
      have bh : (h : Int) < (d.size : Int) := by omega
      have pa : (0 : Int) ≤ (m : Int) := by omega
      have ba : (m : Int) < (d.size : Int) := by omega
      have lh := S1.out.cl R hs.symm h (by omega)
      have la := S1.out.cl R hs.symm m (by omega)
      rw [Nat.zero_add] at lh la
      have hxx := H2.out.2 h (by omega) (by omega)
      obtain ⟨x, hx⟩ : ∃ x, x = d[h]! := ⟨_, rfl⟩
      obtain ⟨y, hy⟩ : ∃ y, y = d[m]! := ⟨_, rfl⟩
      rw [← hx] at lh
      rw [← hy] at la
      rw [← hx, ← hy] at hxx
      have hc := S1.out.cmp HC.out hs.symm y x
      have HXY := Lib.hid (And.intro hx hy)
      clear hx hy hh eh
      by_cases hv : cf y x < 0
      · have hl := hxx.1 hv
        have hd : decide (cf y x < 0) = true := decide_eq_true hv
        have HL := Lib.hid hl
        clear hl hxx
        go_quiet_grown (first | (go_at_fn g; refine Calls.grown_of (hc _ _)))
        have S2 : Aside (SW enc w0 blk 0 d (grow (wr.drewN nq) osq)) := S1.out.grown nq osq
        clear lh la hc S1
        generalize grow (wr.drewN nq) osq = w2 at S2 ⊢
        clear nq osq
        go_wp2
        go_roundw
        case rel => exact ⟨i, h, hi, h1, by omega, rfl, rfl, S2, HB.out.1, fun z h3 h4 => by
            rw [HXY.out.1, HXY.out.2] at HL
            cases e : lt d[m]! d[z]! with
            | true => rfl
            | false =>
              have := hS.ntrans _ _ _ e (SortedIn.le hS H2.out.1 (by omega) h3 h4)
              rw [HL.out] at this
              cases this⟩
        case measure => simp [intOf]; omega
      · have hl : lt y x = false := by
          cases e : lt y x with
          | false => rfl
          | true => exact absurd (hxx.2 e) hv
        have hd : decide (cf y x < 0) = false := decide_eq_false hv
        have HL := Lib.hid hl
        clear hl hxx
        go_quiet_grown (first | (go_at_fn g; refine Calls.grown_of (hc _ _)))
        have S2 : Aside (SW enc w0 blk 0 d (grow (wr.drewN nq) osq)) := S1.out.grown nq osq
        clear lh la hc S1
        generalize grow (wr.drewN nq) osq = w2 at S2 ⊢
        clear nq osq
        go_wp2
        go_roundw
        case rel => exact ⟨h + 1, j, by omega, by omega, hjm, by go_num, rfl, S2, fun z h3 h4 => by
            rw [HXY.out.1, HXY.out.2] at HL
            exact hS.ntrans _ _ _ HL.out (SortedIn.le hS H2.out.1 h3 (by omega) (by omega)), HB.out.2⟩
        case measure => simp [intOf]; omega
    · obtain rfl : i = j := by omega
      clear hlt
      go_wp2_with (fail)
      go_loopw [17] (fun kv wr2 => ∃ (k : Nat) (dk : Array α), i ≤ k ∧ k ≤ m ∧ kv = .int .i64 (k : Int) ∧ Aside (SW enc w0 blk 0 dk wr2) ∧ Hid (Dn a b m d k dk)) (fun kv _ => (intOf kv).toNat)
      case atStart => exact ⟨m, d, hjm, Nat.le_refl _, rfl, S1, Dn.start a b m d⟩
      case round =>
        clear S1
        obtain ⟨k, dk, hak, hk, rfl, SK, HU⟩ := hrel
        have hds : dk.size = d.size := HU.out.perm.1
        by_cases hkl : i < k
        · obtain ⟨k, rfl⟩ : ∃ z, k = z + 1 := ⟨k - 1, by omega⟩
          have hnx := HU.out.step (k := k) (by omega) (by omega) hb
          have HN := Lib.hid hnx
          clear hnx
          obtain ⟨k1, hk1⟩ : ∃ z, z = k + 1 := ⟨_, rfl⟩
          rw [← hk1] at hak hk hkl HN HU ⊢
          have rb : IntKind.i64.wrap ((k1 : Int) - 1) = (k : Int) := by rw [IntKind.wrap_i64]; omega
          go_wp2_with fail
          have pa : (0 : Int) ≤ (k1 : Int) := by omega
          have ba : (k1 : Int) < (d.size : Int) := by omega
          have pb : (0 : Int) ≤ (k : Int) := by omega
          have bb : (k : Int) < (d.size : Int) := by omega
          obtain ⟨x, hx⟩ : ∃ x, x = dk[k1]! := ⟨_, rfl⟩
          obtain ⟨y, hy⟩ : ∃ x, x = dk[k]! := ⟨_, rfl⟩
          have T2 : Aside (SW enc w0 blk 0 (swp dk k1 k) ((wr.setCell ⟨blk, 0 + k1, none⟩ (enc y)).setCell ⟨blk, 0 + k, none⟩ (enc x)).drew) := by rw [hx, hy]; exact SK.out.swapped R k1 k (by omega) (by omega)
          have c1a := SK.out.c1 R (by omega) k1 (by omega)
          have c1b := SK.out.c1 R (by omega) k (by omega)
          have f1a := SK.out.f1 R (by omega) k1 (by omega)
          have f1b := SK.out.f1 R (by omega) k (by omega)
          obtain ⟨u, c1c⟩ := SK.out.c2 R (by omega) k1 k (by omega) (by omega) (enc y)
          rw [← hx] at c1a
          rw [← hy] at c1b
          rw [Nat.zero_add] at c1a c1b f1a f1b
          simp only [Nat.zero_add] at T2 c1c
          have HK1 := Lib.hid hk1
          clear SK hx hy hk1
          go_big_region_o
          clear c1a c1b c1c f1a f1b
          generalize ((wr.setCell ⟨blk, k1, none⟩ (enc y)).setCell ⟨blk, k, none⟩ (enc x)).drew = w2 at T2 ⊢
          go_wp2
          go_roundw
          case rel => exact ⟨k, _, by have := HK1.out; omega, by have := HK1.out; omega, by first | rfl | go_num, T2, HN.out⟩
          case measure => have := HK1.out; simp [intOf]; omega
        · obtain rfl : i = k := by omega
          go_wp2
          go_end0
          refine ⟨rfl, dk, HU.out.perm, ?_, SK.out⟩
          have e1 := HM.out
          subst e1
          exact HU.out.sorted hS hi hk H2.out.1 HB.out.1 HB.out.2
end Of
end Go.Proofs.Ytjgakcpjphdicaa
