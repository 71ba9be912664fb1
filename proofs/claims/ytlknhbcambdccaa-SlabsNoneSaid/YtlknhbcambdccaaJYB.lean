/- SlabsBack: the walk. -/
import Derived.Test.YtlknhbcambdccaaJXT
import Derived.Test.YtlknhbcambdccaaJYA
import Derived.Test.YtlknhbcambdccaaK17
namespace Go.Proofs.Ytlknhbcambdccaa
open Go.RowKit
namespace Sl
open Bu

/-- Numbers of 8 bits. -/
def U8At (w : World) (A : Option Addr) (c : Nat) (T : List Nat) : Prop :=
  T.length ≤ c ∧ c ≤ maxLen ∧ ∀ (j x : Nat), T[j]? = some x → ∃ g o, A = some ⟨g, o, none⟩ ∧ g < w.heap.size ∧ w.cell? ⟨g, o + j, none⟩ = some (.int .u8 (x : Int)) ∧ x < 256
theorem u8_at {w w' : World} {A : Option Addr} {c n : Nat} {T : List Nat} (h : U8At w A c T) (hb : Below n w w') (hn : w.heap.size ≤ n) {j x : Nat} (hj : T[j]? = some x) :
    ∃ g o, A = some ⟨g, o, none⟩ ∧ w'.cell? ⟨g, o + j, none⟩ = some (.int .u8 (x : Int)) ∧ x < 256 := by
  obtain ⟨g, o, hA, hg, hc, hx⟩ := h.2.2 j x hj
  exact ⟨g, o, hA, (hb.cell (p := ⟨g, o + j, none⟩) (by show g < n; omega)).trans hc, hx⟩

/-- What the first loop keeps. -/
def BackI (W1 : World) (c b N K0 : Nat) (A4 : Option Addr) (c4 : Nat) (W : World) : Prop :=
  ∃ own C L, Mine W1 own c b C N L W ∧ Exact C L ∧ own K0 = none ∧ W.heap[K0]? = some (.cells #[.int .i64 (N : Int), .slice A4 0 c4] 46 (0, 0))

set_option maxRecDepth 100000 in
set_option maxHeartbeats 8000000 in
theorem back_in (w : World) (P many : Nat) (hP : P < 256) (hmany : many < 256) (size order keep : Int) (hs : sizesB size order keep = true) (At : Option Addr) (ct : Nat) (T : List Nat) (hT : U8At w At ct T) (hTl : T.length ≤ 200) :
    Calls Try.prog 4 #[.agg #[.int .u8 (P : Int), .int .i64 size, .int .i64 order, .int .i64 keep], .int .u8 (many : Int), .slice At T.length ct] w fun e w' => e = .returned (.bool true) ∧ Below w.heap.size w w' := by
  obtain ⟨W1, hW1⟩ : ∃ W1, W1 = w.alloc (.cells #[.int .u8 (P : Int), .int .i64 size, .int .i64 order, .int .i64 keep] 42) := ⟨_, rfl⟩
  have hb1 : Below w.heap.size w W1 := by rw [hW1]; exact below_box w _
  have hB1 : W1.heap[w.heap.size]? = some (.cells #[.int .u8 (P : Int), .int .i64 size, .int .i64 order, .int .i64 keep] 42 (0, 0)) := by rw [hW1, heapAlloc, if_pos rfl]
  have hs1 : W1.heap.size = w.heap.size + 1 := by rw [hW1]; simp
  obtain ⟨N, hN⟩ : ∃ N, N = P % 8 := ⟨_, rfl⟩
  have hN7 : N ≤ 7 := by omega
  have hNi : (P : Int) % 8 = (N : Int) := by omega
  have b0 : W1.cell? ⟨w.heap.size, 0, none⟩ = some (.int .u8 (P : Int)) := by rw [cell_of_row _ _ _ _ _ _ hB1]; rfl
  have hp0 : (0 : Int) ≤ (P : Int) := by omega
  have hp1 : (P : Int) ≤ 255 := by omega
  have t1 : ¬ (T.length : Int) > 200 := by omega
  have HN := Lib.hid (newL_ok W1 N (by omega))
  have HW := Lib.hid hW1
  have HX := Lib.hid (And.intro hb1 (And.intro hB1 (And.intro hs1 (And.intro hN7 (And.intro hTl (And.intro hT hs))))))
  clear hb1 hB1 hs1 hN hTl hs hT hN7 hW1
  go_enter Try.func4, Try.ntmps4
  go_wp2_with (fail)
  rw [← HW.out]
  go_wp2_with (go_at_call 15; fail)
  refine HN.out.mono ?_
  rintro _ W2 ⟨rfl, hB2, hb2⟩
  have hB2s := (hb2.block w.heap.size (by have := HX.out.2.2.1; omega)).trans HX.out.2.1
  have c1 : W2.cell? ⟨w.heap.size, 1, none⟩ = some (.int .i64 size) := by rw [cell_of_row _ _ _ _ _ _ hB2s]; rfl
  have c2 : W2.cell? ⟨w.heap.size, 2, none⟩ = some (.int .i64 order) := by rw [cell_of_row _ _ _ _ _ _ hB2s]; rfl
  have c3 : W2.cell? ⟨w.heap.size, 3, none⟩ = some (.int .i64 keep) := by rw [cell_of_row _ _ _ _ _ _ hB2s]; rfl
  have HC := Lib.hid (Mine.new (size := size) (order := order) (keep := keep) hB2 hb2 (Nat.le_refl _) HX.out.2.2.2.2.2.2)
  obtain ⟨b, hb⟩ : ∃ b, b = W1.heap.size := ⟨_, rfl⟩
  rw [← hb] at HC ⊢
  clear hB2 hB2s hb2 HN b0 hb
  go_wp2_with (go_at_call 16; fail)
  refine HC.out.mono ?_
  rintro _ W3 ⟨c, s, o, k, own, -, -, -, rfl, hM3⟩
  have HS := Lib.hid (save_ok W3 b N [] hM3.held.bu)
  have HM := Lib.hid hM3
  clear hM3 c1 c2 c3 HC
  go_wp2_with (go_at_call 18; fail)
  refine HS.out.mono ?_
  rintro _ W4 ⟨⟨A4, c4, rfl, ho4⟩, hb4⟩
  have hM4 := HM.out.step hb4
  obtain ⟨K0, hK0⟩ : ∃ K0, K0 = W4.heap.size := ⟨_, rfl⟩
  obtain ⟨W5, hW5⟩ : ∃ W5, W5 = W4.alloc (.cells #[.int .i64 (N : Int), .slice A4 0 c4] 46) := ⟨_, rfl⟩
  have hI : BackI W1 c b N K0 A4 c4 W5 := by
    have hb5 : Below W4.heap.size W4 W5 := by rw [hW5]; exact below_box _ _
    refine ⟨own, _, [], hM4.step hb5, (fun z hz => by cases hz), ?_, by rw [hW5, hK0, heapAlloc, if_pos rfl]⟩
    refine Classical.byContradiction fun hn => ?_
    have := hM4.held.fresh _ hn
    omega
  have HI := Lib.hid hI
  have HK := Lib.hid (And.intro hK0 hW5)
  have HC4 := Lib.hid ho4.at.1.len.2
  clear hI hM4 ho4 hb4 HS HM hK0 hW5
  go_wp2_with (fail)
  rw [← HK.out.1, ← HK.out.2]
  clear HK
  have hcm : IntKind.i64.wrap (many : Int) = (many : Int) := IntWalk.i64_in _ (by omega)
  go_loopw [12] (fun i wr => ∃ k : Nat, k ≤ many ∧ i = .int .i64 (k : Int) ∧ BackI W1 c b N K0 A4 c4 wr) (fun i _ => many - (intOf i).toNat)
  case atStart => exact ⟨0, Nat.zero_le _, rfl, HI.out⟩
  case round =>
    obtain ⟨k, hk, rfl, own, C, L, hM, hE, hn0, hk0⟩ := hrel
    clear HI
    by_cases hlt : k < many
    · have e1 : (k : Int) < (many : Int) := by omega
      have hkk : IntKind.i64.wrap ((k : Int) + 1) = ((k + 1 : Nat) : Int) := by rw [IntWalk.i64_in _ (by omega)]; rfl
      have hK0s := lt_of_heap hk0
      cases ha : allocC C N L with
      | none =>
        have HA := Lib.hid (hM.full ha)
        have HJ := Lib.hid (And.intro hE (And.intro hn0 (And.intro hk0 hK0s)))
        clear hM hE hn0 hk0 hK0s ha
        go_wp2_with (go_at_call 12; refine HA.out.mono ?_; rintro _ W6 ⟨rfl, hM6, hK6⟩; have H6 := Lib.hid (And.intro hM6 hK6); clear hM6 hK6)
        go_roundw
        case rel => exact ⟨k + 1, by omega, by go_num, own, C, L, H6.out.1, HJ.out.1, HJ.out.2.1, (H6.out.2.block K0 HJ.out.2.2.2 HJ.out.2.1).trans HJ.out.2.2.1⟩
        case measure => simp [intOf]; omega
      | some r =>
        obtain ⟨a, sl, L'⟩ := r
        have HA := Lib.hid (hM.alloc ha)
        have HJ := Lib.hid (And.intro ((alloc_obj hM.held.ok ha).2.2 hE) (And.intro hn0 (And.intro hk0 hK0s)))
        clear hM hE hn0 hk0 hK0s ha
        go_wp2_with (go_at_call 12; refine HA.out.mono ?_; rintro _ W6 ⟨rfl, own', hM6, hK6⟩; have H6 := Lib.hid (And.intro hM6 hK6); clear hM6 hK6)
        go_roundw
        case rel => exact ⟨k + 1, by omega, by go_num, own', _, L', H6.out.1, HJ.out.1, (H6.out.2.same K0 HJ.out.2.2.2).trans HJ.out.2.1, (H6.out.2.block K0 HJ.out.2.2.2 HJ.out.2.1).trans HJ.out.2.2.1⟩
        case measure => simp [intOf]; omega
    · have e1 : ¬ (k : Int) < (many : Int) := by omega
      have hK0s := lt_of_heap hk0
      have hwr := hM.below.size
      have HO := Lib.hid hM.objects
      have hol : (objC C).length ≤ 131072 := by
        have h1 := objK_len (C := C) (fun x hx => by rw [hM.held.ok.len x hx]; exact (capa_pos hM.held.ok).2.1) C.sl.length (Nat.le_refl _)
        rw [objK_all] at h1
        have h2 := ok_len hM.held.ok
        omega
      have hfr := hM.held.fresh
      have HJ := Lib.hid (And.intro hE (And.intro hn0 (And.intro hk0 (And.intro hK0s (And.intro hwr (And.intro hol hfr))))))
      clear hM hE hn0 hk0 hK0s hwr hol hfr
      go_wp2_with (go_at_call 19; fail)
      refine HO.out.mono ?_
      rintro _ W6 ⟨⟨A', c', rfl, hr6⟩, hM6, hb6⟩
      obtain ⟨B0, hB0⟩ : ∃ B0, B0 = wr.heap.size := ⟨_, rfl⟩
      rw [← hB0] at hr6
      have hno : ∀ z, B0 ≤ z → own z = none := fun z hz => by
        refine Classical.byContradiction fun hn => ?_
        have := HJ.out.2.2.2.2.2.2 z hn
        omega
      obtain ⟨ln, hln⟩ : ∃ ln, ln = (objC C).length := ⟨_, rfl⟩
      have H6 := Lib.hid (And.intro hr6 (And.intro hM6 (And.intro hno (And.intro hln (And.intro HJ.out.1 (And.intro HJ.out.2.1 (And.intro ((hb6.block K0 HJ.out.2.2.2.1).trans HJ.out.2.2.1) (show K0 < B0 ∧ ln ≤ 131072 ∧ W1.heap.size ≤ B0 from ⟨by have := HJ.out.2.2.2.1; omega, by have := HJ.out.2.2.2.2.2.1; omega, by have := HJ.out.2.2.2.2.1; omega⟩))))))))
      rw [← hln]
      clear hr6 hM6 hno hln HJ HO hb6 hB0
      go_wp2_with (fail)
      go_loopw [15, 17, 18] (fun l i _ wx => ∃ (M : List Nat) (A9 : Option Addr) (c9 ii : Nat) (C : Ca) (L : List Blk), l = .slice A9 M.length c9 ∧ i = .int .i64 (ii : Int) ∧ ii + M.length = ln ∧ M = objC C ∧ Exact C L ∧ Own64 wx B0 A9 c9 M ∧ Mine W1 own c b C N L wx ∧ wx.heap[K0]? = some (.cells #[.int .i64 (N : Int), .slice A4 0 c4] 46 (0, 0))) (fun l _ _ _ => lenOf l)
      case atStart =>
        obtain ⟨hr6, hM6, hno, hln, hE, hn0, hk0, hr⟩ := H6.out
        exact ⟨objC C, A', c', 0, C, L, by rw [hln], rfl, by omega, rfl, hE, hr6, hM6, hk0⟩
      case round =>
        obtain ⟨M, A9, c9, ii, C, L, rfl, rfl, hil, hMo, hE, hown, hM, hk0⟩ := hrel
        have hln := H6.out.2.2.2.2.2.2.2.2.1
        by_cases hpos : 0 < M.length
        · obtain ⟨g, hAg, hg1, hg2⟩ := own64_some hown hpos
          have hcap := (own64_at hown).cap
          have hcap1 := (own64_at hown).len
          unfold maxLen at hcap
          have HO := Lib.hid (And.intro hown (And.intro hM (And.intro hE (And.intro hMo hk0))))
          have e0 : (0 : Int) < (M.length : Int) := by omega
          have e2 : (0 : Int) ≤ (ii : Int) := by omega
          have hkk : IntKind.i64.wrap ((ii : Int) + 1) = ((ii + 1 : Nat) : Int) := by rw [IntWalk.i64_in _ (by omega)]; rfl
          clear hown hM hE hMo hk0
          subst hAg
          go_upto_if 89 with (fail)
          go_cut [18] from 81 to 114 (fun kv wx => wx = wr ∧ ∃ k : Nat, k < M.length ∧ kv = .int .i64 (k : Int))
          case first =>
            by_cases hlt2 : ii < T.length
            · obtain ⟨x, hx⟩ : ∃ x, T[ii]? = some x := ⟨_, List.getElem?_eq_getElem hlt2⟩
              have hMb := HO.out.2.1.below
              obtain ⟨gt, ot, hAt, hd, hx8⟩ := u8_at HX.out.2.2.2.2.2.1 (HX.out.1.trans (hMb.mono (by have := HX.out.2.2.1; omega))) (Nat.le_refl _) hx
              have e3 : (ii : Int) < (T.length : Int) := by omega
              have hct := HX.out.2.2.2.2.2.1.1
              have hcv : IntKind.i64.wrap (x : Int) = (x : Int) := IntWalk.i64_in _ (by omega)
              have e4 : (0 : Int) ≤ (x : Int) := by omega
              have e5 : (M.length : Int) ≠ 0 := by omega
              subst hAt
              have HK := Lib.hid (show ∃ k : Nat, k < M.length ∧ Value.int .i64 ((x : Int) % (M.length : Int)) = .int .i64 (k : Int) from ⟨x % M.length, Nat.mod_lt _ hpos, by rw [Int.natCast_emod]⟩)
              clear hx hMb
              go_wp2_with (fail)
              go_meet
              exact ⟨rfl, HK.out⟩
            · have e3 : ¬ (ii : Int) < (T.length : Int) := by omega
              go_wp2_with (fail)
              go_meet
              exact ⟨rfl, 0, hpos, rfl⟩
          case rest =>
            obtain ⟨rfl, k, hk, rfl⟩ := hcut
            obtain ⟨a, ha⟩ : ∃ a, M[k]? = some a := ⟨_, List.getElem?_eq_getElem hk⟩
            have ha1 := row_at HO.out.1 (n64_get ha)
            have hao : IsObj C a := mem_objC.1 (by rw [← HO.out.2.2.2.1]; exact List.mem_of_getElem? ha)
            obtain ⟨_, ha66, _⟩ := obj_in HO.out.2.1.held.ok hao
            obtain ⟨sl, L', hf, hobj, hEx⟩ := free_obj HO.out.2.1.held.ok hao
            have hfree := HO.out.2.1.free (at_ := (a : Int)) (by omega) (by omega) hf
            obtain ⟨k1, hk1e⟩ : ∃ k1 : Nat, k1 = k + 1 := ⟨_, rfl⟩
            obtain ⟨M1, hM1⟩ : ∃ M1, M1 = M.take k := ⟨_, rfl⟩
            obtain ⟨M2, hM2⟩ : ∃ M2, M2 = M.drop k1 := ⟨_, rfl⟩
            obtain ⟨M3, hM3⟩ : ∃ M3, M3 = M1 ++ M2 := ⟨_, rfl⟩
            have hl1 : M1.length = k := by rw [hM1, List.length_take]; omega
            have hl2 : M2.length = M.length - k1 := by rw [hM2, List.length_drop]
            have hl3 : M3.length + 1 = M.length := by rw [hM3, List.length_append, hl1, hl2]; omega
            have hobj3 : ∀ C' : Ca, CaOk C' N L' → C' = { C with sl := sl } → M3 = objC C' := fun C' hok hC' => by
              have hasc := asc_objC HO.out.2.1.held.ok
              rw [← HO.out.2.2.2.1] at hasc
              have hM3e : M3 = M.eraseIdx k := by rw [hM3, hM1, hM2, hk1e, List.eraseIdx_eq_take_drop_succ]
              refine nat_asc_eq (hM3e ▸ hasc.sublist (List.eraseIdx_sublist M k)) (asc_objC hok) fun z => ?_
              rw [mem_objC, hC', hobj z, ← mem_objC, ← HO.out.2.2.2.1, hM3e, List.mem_eraseIdx_iff_getElem?]
              constructor
              · rintro ⟨i, hi, hz⟩
                refine ⟨List.mem_of_getElem? hz, fun e => hi ?_⟩
                subst e
                obtain ⟨g1, g2⟩ := List.getElem?_eq_some_iff.1 hz
                obtain ⟨g3, g4⟩ := List.getElem?_eq_some_iff.1 ha
                rcases Nat.lt_trichotomy i k with f | f | f
                · have := List.pairwise_iff_getElem.1 hasc i k g1 g3 f; omega
                · exact f
                · have := List.pairwise_iff_getElem.1 hasc k i g3 g1 f; omega
              · rintro ⟨hz, hne⟩
                obtain ⟨i, hi⟩ := List.mem_iff_getElem?.1 hz
                exact ⟨i, fun e => hne (by rw [e, ha] at hi; injection hi with hi; exact hi.symm), hi⟩
            have HF := Lib.hid hfree
            have HK1 := Lib.hid (And.intro hobj3 (And.intro hEx (And.intro hl1 (And.intro hl2 (And.intro hM1 (And.intro hM2 (And.intro hM3 hk1e)))))))
            have e3 : (0 : Int) ≤ (k : Int) := by omega
            have e4 : (k : Int) < (M.length : Int) := by omega
            have hkn := own64_at HO.out.1
            have hk1 : IntKind.i64.wrap ((k : Int) + 1) = (k1 : Int) := by rw [IntWalk.i64_in _ (by omega)]; omega
            have u0 : (k : Int) ≤ (c9 : Int) := by omega
            have u1 : (0 : Int) ≤ (k1 : Int) := by omega
            have u2 : (k1 : Int) ≤ (M.length : Int) := by omega
            have u3 : (M.length : Int) ≤ (c9 : Int) := by omega
            clear ha hao hf hobj hEx hfree hobj3 hl1 hl2 hM1 hM2 hM3 hk1e hkn
            go_wp2_with (go_at_call 11; fail)
            refine HF.out.mono ?_
            rintro _ W7 ⟨rfl, hM7, hK7⟩
            have hr7 : Own64 W7 B0 (some ⟨g, 0, none⟩) c9 M := row_keep HO.out.1 fun z h1 h2 => hK7.block z h2 (H6.out.2.2.1 z h1)
            have hat := own64_at hr7
            have hsrc1 : I64At W7 (some ⟨g, 0, none⟩) c9 M1 := by rw [HK1.out.2.2.2.2.1]; exact hat.take
            have hsrc2 : I64At W7 (if c9 = k1 then some ⟨g, 0, none⟩ else some ⟨g, k1, none⟩) (c9 - k1) M2 := by
              by_cases e : c9 = k1
              · have h0 : M2 = [] := List.length_eq_zero_iff.1 (by have := HK1.out.2.2.2.1; omega)
                rw [h0]
                exact ⟨Nat.zero_le _, by unfold maxLen; omega, fun j x hx => by simp at hx⟩
              · rw [if_neg e, HK1.out.2.2.2.2.2.1]
                have := hat.drop (k := k1) (by omega)
                rw [Nat.zero_add] at this
                exact this
            have hrow7 := row_empty64 W7 W7.heap.size (Nat.le_refl _)
            have hW7s : B0 ≤ W7.heap.size := by have := hK7.size; omega
            have hk07 : W7.heap[K0]? = _ := (hK7.block K0 (by have := H6.out.2.2.2.2.2.2.2.1; omega) H6.out.2.2.2.2.2.1).trans HO.out.2.2.2.2
            have H7 := Lib.hid (And.intro hM7 (And.intro hsrc1 (And.intro hsrc2 (And.intro hrow7 (And.intro hW7s hk07)))))
            clear hM7 hK7 hr7 hat hsrc1 hsrc2 hrow7 hW7s hk07 ha1
            go_wp2_with (fail)
            go_region_law (first
              | (refine step_append_i64 (by rfl) (.tmp 105) (.tmp 108) (by rfl) W7.heap.size _ [] (by rfl) H7.out.2.2.2.1 (some ⟨g, 0, none⟩) c9 M1 (by rw [HK1.out.2.2.1]; rfl) (H7.out.2.1.below (w' := (W7.alloc (.cells #[] 2)).drew) (below_box W7 _).drew) (fun h => by cases h) (by have := HK1.out.2.2.1; simp; omega) (by show W7.heap.size ≤ (W7.alloc _).heap.size; simp) ?_
                 intro A8 c8 w8 hrow8 hgr8
                 rw [List.nil_append] at hrow8 ⊢
                 have hb8 : Below W7.heap.size W7 w8 := ((below_box W7 _).drew).grown hgr8 (by show W7.heap.size ≤ (W7.alloc _).heap.size; simp) (fun k hk => (H7.out.2.2.2.1.lt k hk).1)
                 have H8 := Lib.hid (And.intro hrow8 hb8)
                 clear hrow8 hgr8 hb8)
              | (refine step_append_i64 (by rfl) (.tmp 109) (.tmp 113) (by rfl) W7.heap.size _ M1 (by rfl) H8.out.1 (if c9 = k1 then some ⟨g, 0, none⟩ else some ⟨g, k1, none⟩) (c9 - k1) M2 (by rw [HK1.out.2.2.2.1]; rfl) (H7.out.2.2.1.below H8.out.2) (fun h => by split at h <;> cases h) (by have := HK1.out.2.2.1; have := HK1.out.2.2.2.1; omega) H8.out.2.size ?_
                 intro A10 c10 w10 hrow10 hgr10
                 rw [← HK1.out.2.2.2.2.2.2.1] at hrow10 ⊢
                 have hb10 : Below W7.heap.size W7 w10 := H8.out.2.grown hgr10 H8.out.2.size (fun k hk => (H8.out.1.lt k hk).1)
                 have H10 := Lib.hid (And.intro hrow10 hb10)
                 clear hrow10 hgr10 hb10))
            go_wp2_with (fail)
            go_roundw
            case rel =>
              have hM7 := H7.out.1
              exact ⟨M3, A10, c10, ii + 1, _, _, rfl, by go_num, by omega, HK1.out.1 _ hM7.held.ok rfl, HK1.out.2.1 HO.out.2.2.1, own64_low H10.out.1 H7.out.2.2.2.2.1, hM7.step H10.out.2, (H10.out.2.block K0 (lt_of_heap H7.out.2.2.2.2.2)).trans H7.out.2.2.2.2.2⟩
            case measure => simp [lenOf]; omega
        · obtain rfl : M = [] := List.length_eq_zero_iff.1 (by omega)
          have hnone : ∀ a, ¬ IsObj C a := fun a ha => by
            have := mem_objC.2 ha
            rw [← hMo] at this
            cases this
          obtain ⟨htr1, htr2⟩ := trim_all hnone hE
          have htrim := hM.trim
          rw [htr2] at htrim
          obtain ⟨en, hen⟩ : ∃ en : Nat, en = emptyS C.sl := ⟨_, rfl⟩
          rw [← hen] at htrim
          have HT := Lib.hid htrim
          have HJ := Lib.hid (And.intro htr1 (And.intro hk0 (lt_of_heap hk0)))
          have hne : ¬ ((([] : List Nat).length : Nat) : Int) > 0 := by simp
          have t0 : (0 : Int) ≤ (en : Int) := by omega
          clear htrim hnone htr1 htr2 hen hMo hE hown hM hk0
          go_wp2_with (go_at_call 20; fail)
          refine HT.out.mono ?_
          rintro _ W8 ⟨rfl, hM8, hK8⟩
          have hk8 := (hK8.block K0 HJ.out.2.2 H6.out.2.2.2.2.2.1).trans HJ.out.2.1
          have hsl := hM8.slabs
          rw [HJ.out.1] at hsl
          have HS8 := Lib.hid hsl
          have HK8 := Lib.hid (And.intro hk8 (lt_of_heap hk8))
          clear hM8 hK8 hk8 hsl HT
          go_wp2_with (go_at_call 14; fail)
          refine HS8.out.mono ?_
          rintro _ W9 ⟨⟨A11, c11, rfl, -⟩, hM9, hb9⟩
          have hk9 := (hb9.block K0 HK8.out.2).trans HK8.out.1
          have f0 : W9.cell? ⟨K0, 0, none⟩ = some (.int .i64 (N : Int)) := by rw [cell_of_row _ _ _ _ _ _ hk9]; rfl
          have f1 : W9.cell? ⟨K0, 1, none⟩ = some (.slice A4 0 c4) := by rw [cell_of_row _ _ _ _ _ _ hk9]; rfl
          have HM9 := Lib.hid (And.intro hM9.below (And.intro hM9.held.bu (And.intro hM9.below.size HC4.out)))
          clear hM9 hb9 hk9 HS8 HK8
          go_wp2_with (fail)
          go_region_held3 (fun w' => w'.cell? ⟨K0, 0, none⟩ = some (.int .i64 (N : Int)) ∧ w'.cell? ⟨K0, 1, none⟩ = some (.slice A4 0 c4)) (first | exact ⟨f0, f1⟩ | exact ⟨g0, g1⟩ | exact ⟨g2, g3⟩ | exact ⟨g4, g5⟩ | go_keep) (first
            | (go_at_call 18; refine (save_ok (World.drew W9) b N [] (HM9.out.2.1.keep rfl)).mono ?_; rintro _ W10 ⟨⟨A12, c12, rfl, ho⟩, hb10⟩; have g0 := cell_keep2 hb10 f0; have g1 := cell_keep2 hb10 f1; have H10 := Lib.hid (And.intro ho hb10); clear ho hb10)
            | (go_at_call 21; refine (same_self _ N A12 A4 c12 c4 [] H10.out.1.at.1 ⟨Nat.zero_le _, HM9.out.2.2.2, fun j x hx => by simp at hx⟩).mono ?_; rintro _ W11 ⟨rfl, hb11⟩; have g2 := cell_keep2 hb11 g0; have g3 := cell_keep2 hb11 g1; have H11 := Lib.hid hb11; clear hb11)
            | (go_at_call 17; refine (shown_ok _).mono ?_; rintro _ W12 ⟨rfl, hb12⟩; have g4 := cell_keep2 hb12 g2; have g5 := cell_keep2 hb12 g3; have H12 := Lib.hid hb12; clear hb12))
          all_goals
            go_wp2_with (fail)
            go_ret
            refine ⟨rfl, ?_⟩
            have h1 := HX.out.1
            have h2 := HM9.out.1.mono h1.size
            have h3 := H10.out.2
            have h4 := H11.out
            have h5 := H12.out
            have s2 := HM9.out.2.2.1
            have h12 := h1.trans h2
            exact below_step (below_step (below_step' h12 h3 (Nat.le_refl _)) h4 (Nat.le_refl _)) h5 (Nat.le_refl _)
end Sl
end Go.Proofs.Ytlknhbcambdccaa
