/- symMerge: the general case. -/
import Derived.Test.YtjgakcpjphdicaaJQ4
import Derived.Test.YtjgakcpjphdicaaJP21
import Derived.Deep.CutRange
namespace Go.Proofs.Ytjgakcpjphdicaa
open Go.Shelf Go.RowKit Go.Lib Go.Sort Go.Proofs
namespace Of

/-- What symMerge does, of ranges up to a length. -/
def SymM {α : Type} [Inhabited α] (enc : α → Value) (lt : α → α → Bool) (cf : α → α → Int) (g : Nat) (cb : Array Value) (blk cap sz : Nat) (w0 : World) (N : Nat) : Prop :=
  ∀ (a m b : Nat) (d : Array α) (w : World), d.size = sz → SW enc w0 blk 0 d w → a < m → m < b → b ≤ d.size → b - a ≤ N → SortedIn lt a m d → SortedIn lt m b d → (∀ x y, m ≤ x → x < b → a ≤ y → y < m → (cf d[x]! d[y]! < 0 ↔ lt d[x]! d[y]! = true)) →
    Calls Try.prog 88 #[.slice (some ⟨blk, 0, none⟩) sz cap, .int .i64 (a : Int), .int .i64 (m : Int), .int .i64 (b : Int), .func (.func g) #[] cb] w (MergedR enc lt blk a b d w0)

set_option maxHeartbeats 16000000 in
set_option maxRecDepth 1000000 in
theorem symC_ok {α : Type} [Inhabited α] (enc : α → Value) (lt : α → α → Bool) (hS : SWO lt) (cf : α → α → Int) (g : Nat) (cb : Array Value) (blk cap N a m b : Nat) (d0 d : Array α) (w0 w : World)
    (eg : ∀ args w, (callFunc g args).run Try.prog w = .ok (.enter g args) w) (hcmp : CmpLays1 Try.prog g cb enc cf blk 0 d0.size w0) (R : Row1 enc w0 blk 0 d0) (hs : d0.size = d.size) (S : SW enc w0 blk 0 d w)
    (ham : a + 1 < m) (hmb : m + 1 < b) (hb : b ≤ d.size) (hsz : d.size ≤ 100000) (hN : b - a ≤ N + 1) (h1 : SortedIn lt a m d) (h2 : SortedIn lt m b d) (hx : ∀ x y, m ≤ x → x < b → a ≤ y → y < m → (cf d[x]! d[y]! < 0 ↔ lt d[x]! d[y]! = true))
    (ih : SymM enc lt cf g cb blk cap d.size w0 N) :
    Calls Try.prog 88 #[.slice (some ⟨blk, 0, none⟩) d.size cap, .int .i64 (a : Int), .int .i64 (m : Int), .int .i64 (b : Int), .func (.func g) #[] cb] w (MergedR enc lt blk a b d w0) := by
  have mixed : Try.prog.follows .mixedOrders = true := by kernel_rfl
  have hcl0 := R.hO.cells
  simp only [Value.cells] at hcl0
  have hst := R.hO.store Try.prog
  have HC : Aside _ := hcmp
  have S0 : Aside (SW enc w0 blk 0 d w) := S
  have H2 := Lib.hid (And.intro h1 (And.intro h2 (And.intro hx ih)))
  obtain ⟨na, hna⟩ : ∃ z, z = m - a := ⟨_, rfl⟩
  have q0 : IntKind.i64.wrap ((m : Int) - (a : Int)) = (na : Int) := by rw [IntKind.wrap_i64]; omega
  have q2 : ((na : Int) == 1) = false := beq_eq_false_iff_ne.2 (by omega)
  obtain ⟨nb, hnb⟩ : ∃ z, z = b - m := ⟨_, rfl⟩
  have q1 : IntKind.i64.wrap ((b : Int) - (m : Int)) = (nb : Int) := by rw [IntKind.wrap_i64]; omega
  have q3 : ((nb : Int) == 1) = false := beq_eq_false_iff_ne.2 (by omega)
  clear S hcmp h1 h2 hx hna hnb ih
  go_enter Try.func88, Try.ntmps88
  go_upto_region 25 with (fail)
  obtain ⟨mid, hmid⟩ : ∃ z : Nat, z = (a + b) / 2 := ⟨_, rfl⟩
  have eh : ((a : Int) + (b : Int)) / 2 = (mid : Int) := by omega
  rw [eh]
  obtain ⟨n, hn⟩ : ∃ z : Nat, z = mid + m := ⟨_, rfl⟩
  have q4 : IntKind.i64.wrap ((mid : Int) + (m : Int)) = (n : Int) := by rw [IntKind.wrap_i64]; omega
  obtain ⟨s0, r0, hB, hsr⟩ : ∃ s0 r0, Bnd a m b mid n s0 r0 ∧ ((mid < m ∧ s0 = n - b ∧ r0 = mid) ∨ (¬ mid < m ∧ s0 = a ∧ r0 = m)) := by
    by_cases hc : mid < m
    · exact ⟨_, _, bnd_left (by omega) (by omega) hmid hn hc, .inl ⟨hc, rfl, rfl⟩⟩
    · exact ⟨_, _, bnd_right (by omega) (by omega) hmid hn hc, .inr ⟨hc, rfl, rfl⟩⟩
  have q6 : IntKind.i64.wrap ((n : Int) - 1) = ((n - 1 : Nat) : Int) := by rw [IntKind.wrap_i64]; omega
  have hmid1 : a < mid := by omega
  have hmid2 : mid < b := by omega
  obtain ⟨p, hp⟩ : ∃ z : Nat, z = n - 1 := ⟨_, rfl⟩
  rw [← hp] at q6
  have HP := Lib.hid (And.intro hp (And.intro hmid (And.intro hn hB)))
  have hpn : p + 1 = n := by omega
  have hn2 : n ≤ 200000 := by omega
  clear hp hmid hn eh
  have HSR := Lib.hid hsr
  clear hsr hB
  go_upto_if 140 with (fail)
  go_cut [20, 21] from 25 (fun sv rv wx => sv = .int .i64 (s0 : Int) ∧ rv = .int .i64 (r0 : Int) ∧ wx = w)
  case first => as_aux_lemma =>
    rcases HSR.out with ⟨hc, hs0, hr0⟩ | ⟨hc, hs0, hr0⟩
    · have q5 : IntKind.i64.wrap ((n : Int) - (b : Int)) = (s0 : Int) := by have := HP.out; rw [IntKind.wrap_i64]; omega
      have HS0 := Lib.hid hr0
      clear hr0 hs0
      go_wp2_with (fail)
      go_meet
      exact ⟨rfl, by rw [HS0.out], rfl⟩
    · have HS0 := Lib.hid (And.intro hr0 hs0)
      clear hr0 hs0
      go_wp2_with (fail)
      go_meet
      exact ⟨by rw [HS0.out.2], by rw [HS0.out.1], rfl⟩
  case rest => as_aux_lemma =>
    obtain ⟨rfl, rfl, hw⟩ := hcut
    subst hw
    go_wp2_with (fail)
    go_loopw [20, 21] (fun iv jv wr => ∃ i j : Nat, s0 ≤ i ∧ i ≤ j ∧ j ≤ r0 ∧ iv = .int .i64 (i : Int) ∧ jv = .int .i64 (j : Int) ∧ Aside (SW enc w0 blk 0 d wr) ∧ (∀ c, s0 ≤ c → c < i → lt d[n - 1 - c]! d[c]! = false) ∧ (∀ c, j ≤ c → c < r0 → lt d[n - 1 - c]! d[c]! = true)) (fun iv jv _ => (intOf jv).toNat - (intOf iv).toNat)
    case atStart => exact ⟨s0, r0, Nat.le_refl _, HP.out.2.2.2.sr, Nat.le_refl _, rfl, rfl, S0, fun x h1 h2 => by omega, fun x h1 h2 => by omega⟩
    case round =>
      clear S0
      obtain ⟨i, j, hi, hij, hjr, rfl, rfl, S1, hlo, hhi⟩ := hrel
      have HB := Lib.hid (And.intro hlo hhi)
      clear hlo hhi
      obtain ⟨hpn1, hmm, hnn, ⟨n1, n2, n3, n4, n5, n6, n7, n8⟩⟩ := HP.out
      have HP2 := Lib.hid (And.intro n7 n8)
      clear n7 n8 n1
      by_cases hlt : i < j
      · as_aux_lemma =>
        clear hmm
        have HN := Lib.hid (And.intro hpn1 hnn)
        clear hpn1 hnn
        go_wp2_with (fail)
        obtain ⟨h, hh⟩ : ∃ h : Nat, h = (i + j) / 2 := ⟨_, rfl⟩
        have eh : ((i : Int) + (j : Int)) / 2 = (h : Int) := by omega
        have h1 : i ≤ h := by omega
        have h2 : h < j := by omega
        rw [eh]
        obtain ⟨c1, hc1⟩ : ∃ z : Nat, z = p - h := ⟨_, rfl⟩
        have e2 := HN.out
        have rb : IntKind.i64.wrap ((p : Int) - (h : Int)) = (c1 : Int) := by rw [IntKind.wrap_i64]; omega
        have k1 : m ≤ c1 := by omega
        have k2 : c1 < b := by omega
        have k3 : a ≤ h := by omega
        have k4 : h < m := by omega
        have ec1 : n - 1 - h = c1 := by omega
        have ph : (0 : Int) ≤ (h : Int) := by omega
        have bh : (h : Int) < (d.size : Int) := by omega
        have pa : (0 : Int) ≤ (c1 : Int) := by omega
        have ba : (c1 : Int) < (d.size : Int) := by omega
        have lh := S1.out.cl R hs.symm h (by omega)
        have la := S1.out.cl R hs.symm c1 (by omega)
        rw [Nat.zero_add] at lh la
        have hxx := H2.out.2.2.1 c1 h k1 k2 k3 k4
        obtain ⟨x, hx⟩ : ∃ x, x = d[c1]! := ⟨_, rfl⟩
        obtain ⟨y, hy⟩ : ∃ y, y = d[h]! := ⟨_, rfl⟩
        rw [← hx] at la
        rw [← hy] at lh
        rw [← hx, ← hy] at hxx
        have hc := S1.out.cmp HC.out hs.symm x y
        have HXY := Lib.hid (And.intro hx (And.intro hy ec1))
        clear hx hy hh eh e2 hc1 ec1
        by_cases hv : cf x y < 0
        · as_aux_lemma =>
          have hl := hxx.1 hv
          have hd : decide (cf x y < 0) = true := decide_eq_true hv
          have HL := Lib.hid hl
          clear hl hxx
          go_quiet_grown (first | (go_at_fn g; refine Calls.grown_of (hc _ _)))
          have S2 : Aside (SW enc w0 blk 0 d (grow (wr.drewN nq) osq)) := S1.out.grown nq osq
          clear lh la hc S1
          generalize grow (wr.drewN nq) osq = w2 at S2 ⊢
          clear nq osq
          go_wp2
          go_roundw
          case rel => exact ⟨i, h, hi, h1, by omega, rfl, rfl, S2, HB.out.1, fun z h3 h4 => by
              have hl := HL.out
              rw [HXY.out.1, HXY.out.2.1, ← HXY.out.2.2] at hl
              have := HN.out
              exact mono_true hS H2.out.1 H2.out.2.1 h3 k3 (by omega) (by omega) (by omega) hl⟩
          case measure => simp [intOf]; omega
        · as_aux_lemma =>
          have hl : lt x y = false := by
            cases e : lt x y with
            | false => rfl
            | true => exact absurd (hxx.2 e) hv
          have hd : decide (cf x y < 0) = false := decide_eq_false hv
          have HL := Lib.hid hl
          clear hl hxx
          go_quiet_grown (first | (go_at_fn g; refine Calls.grown_of (hc _ _)))
          have S2 : Aside (SW enc w0 blk 0 d (grow (wr.drewN nq) osq)) := S1.out.grown nq osq
          clear lh la hc S1
          generalize grow (wr.drewN nq) osq = w2 at S2 ⊢
          clear nq osq
          go_wp2
          go_roundw
          case rel => exact ⟨h + 1, j, by omega, by omega, hjr, by go_num, rfl, S2, fun z h3 h4 => by
              have hl := HL.out
              rw [HXY.out.1, HXY.out.2.1, ← HXY.out.2.2] at hl
              have := HN.out
              exact mono_false hS H2.out.1 H2.out.2.1 (by omega) (by omega) k4 (by omega) (by omega) hl, HB.out.2⟩
          case measure => simp [intOf]; omega
      · obtain rfl : i = j := by omega
        have HPT := Lib.hid (⟨HP.out.2.2.2, hi, hjr, HB.out.1, HB.out.2⟩ : Part lt a m b mid n s0 r0 i d)
        obtain ⟨e, he⟩ : ∃ z : Nat, z = n - i := ⟨_, rfl⟩
        have q7 : IntKind.i64.wrap ((n : Int) - (i : Int)) = (e : Int) := by rw [IntKind.wrap_i64]; omega
        have k1 : i ≤ m := by omega
        have k2 : i ≤ mid := by omega
        have k3 : m ≤ e := by omega
        have k4 : e ≤ b := by omega
        have k5 : a ≤ i := by omega
        have k6 : mid ≤ e := by omega
        have k7 : i + e = mid + m := by omega
        have HE := Lib.hid he
        clear hpn1 hmm hnn n2 n3 n4 n5 n6 HB hlt hi hij hjr he HP2
        go_upto_region 39 with (fail)
        go_cut [185] from 25 (fun c wx => c = .bool (decide (i < m ∧ m < e)) ∧ wx = wr)
        case first => as_aux_lemma =>
          by_cases c1 : i < m
          · by_cases c2 : m < e
            · go_wp2_with (fail)
              go_meet
              exact ⟨by rw [decide_eq_true (show i < m ∧ m < e from ⟨c1, c2⟩)], rfl⟩
            · go_wp2_with (fail)
              go_meet
              exact ⟨by rw [decide_eq_false (show ¬ (i < m ∧ m < e) from fun h => c2 h.2)], rfl⟩
          · go_wp2_with (fail)
            go_meet
            exact ⟨by rw [decide_eq_false (show ¬ (i < m ∧ m < e) from fun h => c1 h.1)], rfl⟩
        case rest => as_aux_lemma =>
          obtain ⟨rfl, hw⟩ := hcut
          subst hw
          go_upto_if 185 with (fail)
          go_cut [] from 25 (fun wx => ∃ d1 : Array α, Hid (Rot lt a b m mid e i d d1) ∧ Aside (SW enc w0 blk 0 d1 wx))
          case first => as_aux_lemma =>
            by_cases hc : i < m ∧ m < e
            · rw [decide_eq_true hc]
              have hro := rotate_ok enc (.func (.func g) #[] cb) blk cap i m e d0 d w0 _ R hs S1.out hc.1 hc.2 (by omega) hsz
              have HRO := Lib.hid hro
              clear hro
              go_wp2_with (go_at_call 96; refine HRO.out.mono ?_; rintro e2 w3 ⟨rfl, hS3⟩; have HS3 := Lib.hid hS3; clear hS3)
              go_meet
              refine ⟨_, HPT.out.rot hS HE.out H2.out.1 H2.out.2.1 (rotGo_perm m a b (e - i) d (m - i) (e - m) (by omega) (by omega) (by omega) hb) (fun x => ?_), HS3.out⟩
              have hr := rotGo_at m (e - i) d (m - i) (e - m) (by omega) (by omega) (by omega) (by omega) (by omega) x
              rw [show m - (m - i) = i by omega, show i + (e - m) = mid by omega, show m + (e - m) = e by omega] at hr
              exact hr
            · rw [decide_eq_false hc]
              go_wp2_with (fail)
              go_meet
              refine ⟨d, HPT.out.rot hS HE.out H2.out.1 H2.out.2.1 (permIn_refl d a b) (fun x => ?_), S1⟩
              split
              · congr 1; omega
              · split
                · congr 1; omega
                · rfl
          case rest => as_aux_lemma =>
            obtain ⟨d1, HR, S3⟩ := hcut
            have z1 : d1.size = d.size := HR.out.perm.1
            have hcf1 := HR.out.left (fun x y => cf x y < 0 ↔ lt x y = true) H2.out.2.2.1 k1 k3 k4 k7
            have hL := fun (h1 : a < i) (h2 : i < mid) => H2.out.2.2.2 a i mid d1 wc z1 S3.out h1 h2 (by omega) (by omega) HR.out.s1 HR.out.s2 hcf1
            have HL := Lib.hid hL
            clear hcf1 hL
            go_upto_region 41 with (fail)
            go_cut [199] from 25 (fun c wx => c = .bool (decide (a < i ∧ i < mid)) ∧ wx = wc)
            case first => as_aux_lemma =>
              by_cases c1 : a < i
              · by_cases c2 : i < mid
                · go_wp2_with (fail)
                  go_meet
                  exact ⟨by rw [decide_eq_true (show a < i ∧ i < mid from ⟨c1, c2⟩)], rfl⟩
                · go_wp2_with (fail)
                  go_meet
                  exact ⟨by rw [decide_eq_false (show ¬ (a < i ∧ i < mid) from fun h => c2 h.2)], rfl⟩
              · go_wp2_with (fail)
                go_meet
                exact ⟨by rw [decide_eq_false (show ¬ (a < i ∧ i < mid) from fun h => c1 h.1)], rfl⟩
            case rest => as_aux_lemma =>
              obtain ⟨rfl, hw⟩ := hcut
              subst hw
              go_upto_if 199 with (fail)
              go_cut [] from 25 (fun wx => ∃ d2 : Array α, Hid (PermIn a mid d1 d2 ∧ SortedIn lt a mid d2) ∧ Aside (SW enc w0 blk 0 d2 wx))
              case first => as_aux_lemma =>
                by_cases hc : a < i ∧ i < mid
                · rw [decide_eq_true hc]
                  go_wp2_with (go_at_call 88; refine (HL.out hc.1 hc.2).mono ?_; rintro e2 w4 ⟨rfl, d2, p2, s2, hS4⟩; have HS4 := Lib.hid (And.intro p2 (And.intro s2 hS4)); clear p2 s2 hS4)
                  go_meet
                  exact ⟨d2, ⟨HS4.out.1, HS4.out.2.1⟩, HS4.out.2.2⟩
                · rw [decide_eq_false hc]
                  go_wp2_with (fail)
                  go_meet
                  refine ⟨d1, ⟨permIn_refl d1 a mid, ?_⟩, S3⟩
                  by_cases c1 : a < i
                  · have : i = mid := by omega
                    rw [← this]; exact HR.out.s1
                  · have : i = a := by omega
                    rw [← this]; exact HR.out.s2
              case rest => as_aux_lemma =>
                obtain ⟨d2, HP2, S4⟩ := hcut
                have z2 : d2.size = d1.size := HP2.out.1.1
                have hcf2 := HR.out.right (fun x y => cf x y < 0 ↔ lt x y = true) H2.out.2.2.1 k1 k3 k5 k6 k7
                have hs3 : SortedIn lt mid e d2 := fun p q h1 h2 h3 => by rw [HP2.out.1.2.1 p (.inr h1), HP2.out.1.2.1 q (.inr (by omega))]; exact HR.out.s3 p q h1 h2 h3
                have hs4 : SortedIn lt e b d2 := fun p q h1 h2 h3 => by rw [HP2.out.1.2.1 p (.inr (by omega)), HP2.out.1.2.1 q (.inr (by omega))]; exact HR.out.s4 p q h1 h2 h3
                have hR := fun (h1 : mid < e) (h2 : e < b) => H2.out.2.2.2 mid e b d2 wc (z2.trans z1) S4.out h1 h2 (by omega) (by omega) hs3 hs4 (fun x y y1 y2 y3 y4 => by rw [HP2.out.1.2.1 x (.inr (by omega)), HP2.out.1.2.1 y (.inr y3)]; exact hcf2 x y y1 y2 y3 y4)
                have HRR := Lib.hid (And.intro hR (And.intro hs3 hs4))
                clear S3 hcf2 hs3 hs4 hR HL
                have fin : ∀ d3, PermIn mid b d2 d3 → SortedIn lt mid b d3 → PermIn a b d d3 ∧ SortedIn lt a b d3 := fun d3 p3 s3 => HR.out.fin (by omega) (by omega) hb HP2.out.1 HP2.out.2 p3 s3
                have HFIN := Lib.hid fin
                clear fin
                by_cases c1 : mid < e
                · by_cases c2 : e < b
                  · go_wp2_with (go_at_call 88; refine (HRR.out.1 c1 c2).mono ?_; rintro e2 w5 ⟨rfl, d3, p3, s3, hS5⟩; have HS5 := Lib.hid (And.intro p3 (And.intro s3 hS5)); clear p3 s3 hS5)
                    go_end0
                    obtain ⟨f1, f2⟩ := HFIN.out d3 HS5.out.1 HS5.out.2.1
                    exact ⟨rfl, d3, f1, f2, HS5.out.2.2⟩
                  · go_wp2_with (fail)
                    go_end0
                    obtain ⟨f1, f2⟩ := HFIN.out d2 (permIn_refl d2 mid b) (by have : e = b := by omega
                                                                              rw [← this]; exact HRR.out.2.1)
                    exact ⟨rfl, d2, f1, f2, S4.out⟩
                · go_wp2_with (fail)
                  go_end0
                  obtain ⟨f1, f2⟩ := HFIN.out d2 (permIn_refl d2 mid b) (by have : e = mid := by omega
                                                                            rw [← this]; exact HRR.out.2.2)
                  exact ⟨rfl, d2, f1, f2, S4.out⟩
end Of
end Go.Proofs.Ytjgakcpjphdicaa
