/- SlabsDisjoint: the walk. -/
import Derived.Test.YtlknhbcambdccaaJYF
import Derived.Test.YtlknhbcambdccaaJYC
namespace Go.Proofs.Ytlknhbcambdccaa
open Go.RowKit
namespace Sl
open Bu

/-- Acts. -/
def ActAt (w : World) (A : Option Addr) (c : Nat) (T : List (Nat × Int)) : Prop :=
  T.length ≤ c ∧ c ≤ maxLen ∧ ∀ (j : Nat) (x : Nat × Int), T[j]? = some x → ∃ g o, A = some ⟨g, o, none⟩ ∧ g < w.heap.size ∧ w.cell? ⟨g, o + j * 2, none⟩ = some (.int .u8 (x.1 : Int)) ∧ w.cell? ⟨g, o + j * 2 + 1, none⟩ = some (.int .i64 x.2) ∧ x.1 < 256 ∧ -9223372036854775808 ≤ x.2 ∧ x.2 < 9223372036854775808
theorem act_at {w w' : World} {A : Option Addr} {c n : Nat} {T : List (Nat × Int)} (h : ActAt w A c T) (hb : Below n w w') (hn : w.heap.size ≤ n) {j : Nat} {x : Nat × Int} (hj : T[j]? = some x) :
    ∃ g o, A = some ⟨g, o, none⟩ ∧ w'.cell? ⟨g, o + j * 2, none⟩ = some (.int .u8 (x.1 : Int)) ∧ w'.cell? ⟨g, o + j * 2 + 1, none⟩ = some (.int .i64 x.2) ∧ x.1 < 256 := by
  obtain ⟨g, o, hA, hg, h1, h2, h3, _⟩ := h.2.2 j x hj
  exact ⟨g, o, hA, (hb.cell (p := ⟨g, o + j * 2, none⟩) (by show g < n; omega)).trans h1, (hb.cell (p := ⟨g, o + j * 2 + 1, none⟩) (by show g < n; omega)).trans h2, h3⟩

theorem four_at {W : World} {B T : Nat} {x0 x1 x2 x3 : Value} (h : W.heap[B]? = some (.cells #[x0, x1, x2, x3] T (0, 0))) : W.cell? ⟨B, 0, none⟩ = some x0 ∧ W.cell? ⟨B, 1, none⟩ = some x1 ∧ W.cell? ⟨B, 2, none⟩ = some x2 ∧ W.cell? ⟨B, 3, none⟩ = some x3 := by
  refine ⟨?_, ?_, ?_, ?_⟩ <;> (rw [cell_of_row _ _ _ _ _ _ h]; rfl)

/-- A number that is any one, as an index. -/
theorem pick_nums (n : Int) (l : Nat) (hl : 0 < l) (hl2 : l ≤ 1000000) : ∃ U k : Nat, IntKind.u64.wrap n = (U : Int) ∧ k < l ∧ IntKind.u64.wrap (l : Int) = (l : Int) ∧ IntKind.u64.wrap ((U : Int).tmod (l : Int)) = (k : Int) ∧ (U : Int) % (l : Int) = (k : Int) ∧ IntKind.u64.wrap (k : Int) = (k : Int) ∧ IntKind.i64.wrap (k : Int) = (k : Int) := by
  have hw : 0 ≤ IntKind.u64.wrap n := by
    have e : IntKind.u64.wrap n = n % 18446744073709551616 := by simp [IntKind.wrap, IntKind.bits, IntKind.signed]
    rw [e]; exact Int.emod_nonneg _ (by decide)
  obtain ⟨U, hU⟩ := Int.eq_ofNat_of_zero_le hw
  have hk := Nat.mod_lt U hl
  refine ⟨U, U % l, hU, hk, ?_, ?_, rfl, ?_, ?_⟩
  · exact u64_wrap l (by omega)
  · rw [← Int.ofNat_tmod]
    obtain ⟨k, hke⟩ : ∃ k, k = U % l := ⟨_, rfl⟩
    rw [← hke] at hk ⊢
    exact u64_wrap k (by omega)
  · obtain ⟨k, hke⟩ : ∃ k, k = U % l := ⟨_, rfl⟩
    rw [← hke] at hk ⊢
    exact u64_wrap k (by omega)
  · obtain ⟨k, hke⟩ : ∃ k, k = U % l := ⟨_, rfl⟩
    rw [← hke] at hk ⊢
    exact IntWalk.i64_in _ (by omega)

theorem row_own {W W' : World} {own own' : Own?} {B c : Nat} {A : Option Addr} {M : List Nat} (h : Own64 W B A c M) (ho : ∀ g, A.map (·.block) = some g → own g = none) (hK : Keeps own own' W W') : Own64 W' B A c M := by
  refine ⟨h.1, ?_⟩
  rcases h.2 with hn | ⟨g', cap, cur, hv, hB, hgg, rest⟩
  · exact .inl hn
  · have e : A = some ⟨g', 0, none⟩ := by injection hv
    exact .inr ⟨g', cap, cur, hv, hB, by rw [hK.block g' (lt_of_heap hgg) (ho g' (by rw [e]; rfl))]; exact hgg, rest⟩

theorem held_same {W W' : World} {own : Own?} {c b : Nat} {C : Ca} {N : Nat} {L : List Blk} (h : Held W own c b C N L) (hs : W.heap.size ≤ W'.heap.size) (hk : ∀ z, own z ≠ none → z < W.heap.size → W'.heap[z]? = W.heap[z]?) : Held W' own c b C N L := by
  obtain ⟨A, cap, R, hC⟩ := h.at_
  exact ⟨⟨A, cap, R, hC.same (fun k h1 _ h2 => hk k h1 h2) (fun _ _ _ => rfl) rfl⟩, h.bu.keep (hk b (by rw [hC.ownB]; simp) h.bu.lt), h.ok, fun k h1 => Nat.lt_of_lt_of_le (h.fresh k h1) hs⟩
theorem nodup_eraseIdx {M : List Nat} (h : M.Nodup) {k a : Nat} (ha : M[k]? = some a) (z : Nat) : z ∈ M.eraseIdx k ↔ z ∈ M ∧ z ≠ a := by
  rw [List.mem_eraseIdx_iff_getElem?]
  obtain ⟨g3, g4⟩ := List.getElem?_eq_some_iff.1 ha
  constructor
  · rintro ⟨i, hi, hz⟩
    refine ⟨List.mem_of_getElem? hz, fun e => hi ?_⟩
    subst e
    obtain ⟨g1, g2⟩ := List.getElem?_eq_some_iff.1 hz
    exact (List.getElem_inj h).1 (g2.trans g4.symm)
  · rintro ⟨hz, hne⟩
    obtain ⟨i, hi⟩ := List.mem_iff_getElem?.1 hz
    exact ⟨i, fun e => hne (by rw [e, ha] at hi; injection hi with hi; exact hi.symm), hi⟩

set_option maxRecDepth 100000 in
set_option maxHeartbeats 8000000 in
theorem disj_in (w : World) (P : Nat) (hP : P < 256) (size order keep : Int) (hs : sizesB size order keep = true) (At : Option Addr) (ct : Nat) (T : List (Nat × Int)) (hT : ActAt w At ct T) (hTl : T.length ≤ 100) :
    Calls Try.prog 5 #[.agg #[.int .u8 (P : Int), .int .i64 size, .int .i64 order, .int .i64 keep], .slice At T.length ct] w fun e w' => e = .returned (.bool true) ∧ Below w.heap.size w w' := by
  obtain ⟨W1, hW1⟩ : ∃ W1, W1 = w.alloc (.cells #[.int .u8 (P : Int), .int .i64 size, .int .i64 order, .int .i64 keep] 42) := ⟨_, rfl⟩
  have hb1 : Below w.heap.size w W1 := by rw [hW1]; exact below_box w _
  have hB1 : W1.heap[w.heap.size]? = some (.cells #[.int .u8 (P : Int), .int .i64 size, .int .i64 order, .int .i64 keep] 42 (0, 0)) := by rw [hW1, heapAlloc, if_pos rfl]
  have hs1 : W1.heap.size = w.heap.size + 1 := by rw [hW1]; simp
  have hbx : ∀ V, Below W1.heap.size W1 V → V.cell? ⟨w.heap.size, 0, none⟩ = some (.int .u8 (P : Int)) ∧ V.cell? ⟨w.heap.size, 1, none⟩ = some (.int .i64 size) ∧ V.cell? ⟨w.heap.size, 2, none⟩ = some (.int .i64 order) ∧ V.cell? ⟨w.heap.size, 3, none⟩ = some (.int .i64 keep) := fun V hV => four_at ((hV.block w.heap.size (by omega)).trans hB1)
  obtain ⟨N, hN⟩ : ∃ N, N = P % 8 := ⟨_, rfl⟩
  have hNi : (P : Int) % 8 = (N : Int) := by omega
  obtain ⟨b0, b1', b2', b3'⟩ := hbx W1 (Below.refl _ _)
  have hp0 : (0 : Int) ≤ (P : Int) := by omega
  have hp1 : (P : Int) ≤ 255 := by omega
  have t1 : ¬ (T.length : Int) > 100 := by omega
  have HN := Lib.hid (newL_ok W1 N (by omega))
  have HW := Lib.hid hW1
  have HBX := Lib.hid hbx
  have HX := Lib.hid (And.intro hb1 (And.intro hs1 (And.intro hTl (And.intro hT hs))))
  clear hb1 hB1 hs1 hN hTl hs hT hW1 hbx b1' b2' b3'
  go_enter Try.func5, Try.ntmps5
  go_wp2_with (fail)
  rw [← HW.out]
  go_wp2_with (go_at_call 15; fail)
  refine HN.out.mono ?_
  rintro _ W2 ⟨rfl, hB2, hb2⟩
  obtain ⟨c0, c1, c2, c3⟩ := HBX.out W2 hb2
  have HC := Lib.hid (Mine.new (size := size) (order := order) (keep := keep) hB2 hb2 (Nat.le_refl _) HX.out.2.2.2.2)
  obtain ⟨b, hb⟩ : ∃ b, b = W1.heap.size := ⟨_, rfl⟩
  rw [← hb] at HC ⊢
  clear hB2 hb2 HN b0 hb
  go_wp2_with (go_at_call 16; fail)
  refine HC.out.mono ?_
  rintro _ W3 ⟨c, s, o, kp, own, hse, hoe, hke, rfl, hM3⟩
  have HM := Lib.hid hM3
  have HK := Lib.hid (And.intro hse (And.intro hoe hke))
  clear hM3 c0 c1 c2 c3 HC hse hoe hke
  go_wp2_with (fail)
  obtain ⟨i0, z0, hi0, hz0, hz1, hz2, hz3⟩ := info_open i64_info
  go_loopw [9, 10] (fun l i wr => ∃ (ii : Nat) (own : Own?) (C : Ca) (L : List Blk) (A9 : Option Addr) (c9 : Nat) (M : List Nat), ii ≤ T.length ∧ i = .int .i64 (ii : Int) ∧ l = .slice A9 M.length c9 ∧ M.length ≤ ii ∧ M.Nodup ∧ (∀ z, z ∈ M ↔ IsObj C z) ∧ Own64 wr W1.heap.size A9 c9 M ∧ (∀ g, A9.map (·.block) = some g → own g = none) ∧ Mine W1 own c b C N L wr ∧ C.size = s ∧ C.order = o ∧ C.keep = kp) (fun _ i _ => T.length - (intOf i).toNat)
  case atStart =>
    refine ⟨0, own, _, _, none, 0, [], Nat.zero_le _, rfl, rfl, Nat.le_refl _, List.nodup_nil, fun z => ?_, World.ownsRow_nil _ _ _ _, (fun g h => by cases h), HM.out, rfl, rfl, rfl⟩
    constructor
    · intro h; cases h
    · rintro ⟨j, x, i, h1, _⟩
      have h1 : ([] : List Slb)[j]? = some x := h1
      simp at h1
  case round =>
    clear HM
    obtain ⟨ii, own, C, L, A9, c9, M, hii, rfl, rfl, hMl, hnd, hmem, hown, hon, hM, hCs⟩ := hrel
    have e0 : (0 : Int) ≤ (ii : Int) := by omega
    by_cases hlt : ii < T.length
    · have e1 : (ii : Int) < (T.length : Int) := by omega
      have hT100 := HX.out.2.2.1
      have hkk : IntKind.i64.wrap ((ii : Int) + 1) = ((ii + 1 : Nat) : Int) := by rw [IntWalk.i64_in _ (by omega)]; rfl
      obtain ⟨⟨t, nn⟩, hx⟩ : ∃ x, T[ii]? = some x := ⟨_, List.getElem?_eq_getElem hlt⟩
      have hbw : Below w.heap.size w wr := HX.out.1.trans (hM.below.mono (by have := HX.out.2.1; omega))
      obtain ⟨ga, oa, rfl, a0, a1, ht⟩ := act_at HX.out.2.2.2.1 hbw (Nat.le_refl _) hx
      dsimp only at a0 a1 ht
      have hct := HX.out.2.2.2.1.1
      have et0 : (0 : Int) ≤ (t : Int) := by omega
      have et1 : (t : Int) ≤ 255 := by omega
      obtain ⟨m3, hm3⟩ : ∃ m3 : Nat, m3 = t % 3 := ⟨_, rfl⟩
      have hm3i : (t : Int) % 3 = (m3 : Int) := by omega
      have hcap := (own64_at hown).cap
      have hcap1 := (own64_at hown).len
      unfold maxLen at hcap
      have HO := Lib.hid (And.intro hown (And.intro hM (And.intro hnd (And.intro hmem (And.intro hon hCs)))))
      clear hown hM hnd hmem hon hCs hbw hx hm3
      by_cases hfree : m3 = 2 ∧ 0 < M.length
      · obtain ⟨hm2, hpos⟩ := hfree
        have t2 : ((m3 : Int) == 2) = true := by rw [hm2]; rfl
        have t3 : (0 : Int) < (M.length : Int) := by omega
        obtain ⟨g, rfl, hg1, hg2⟩ := own64_some HO.out.1 hpos
        obtain ⟨U, k, hU, hk, hl64, htm, hem, hk64, hki⟩ := pick_nums nn M.length hpos (by omega)
        have HP := Lib.hid (And.intro hU (And.intro hl64 (And.intro htm (And.intro hem (And.intro hk64 hki)))))
        have eU : (0 : Int) ≤ (U : Int) := by omega
        have eL : (0 : Int) ≤ (M.length : Int) := by omega
        have eL2 : (M.length : Int) ≠ 0 := by omega
        clear hU hl64 htm hem hk64 hki hm2
        go_upto_region 14 with (fail)
        go_cut [11] from 66 to 76 (fun kv wx => wx = wr ∧ kv = .int .i64 (k : Int))
        case first =>
          obtain ⟨hU, hl64, htm, hem, hk64, hki⟩ := HP.out
          go_wp2_with (fail)
          go_meet
          exact ⟨rfl, rfl⟩
        case rest =>
          obtain ⟨rfl, rfl⟩ := hcut
          obtain ⟨a, ha⟩ : ∃ a, M[k]? = some a := ⟨_, List.getElem?_eq_getElem hk⟩
          have ha1 := row_at HO.out.1 (n64_get ha)
          have hao : IsObj C a := (HO.out.2.2.2.1 a).1 (List.mem_of_getElem? ha)
          obtain ⟨_, ha66, _⟩ := obj_in HO.out.2.1.held.ok hao
          obtain ⟨sl, L', hf, hobj, hEx⟩ := free_obj HO.out.2.1.held.ok hao
          have hfree := HO.out.2.1.free (at_ := (a : Int)) (by omega) (by omega) hf
          obtain ⟨k1, hk1e⟩ : ∃ k1 : Nat, k1 = k + 1 := ⟨_, rfl⟩
          obtain ⟨M1, hM1⟩ : ∃ M1, M1 = M.take k := ⟨_, rfl⟩
          obtain ⟨M2, hM2⟩ : ∃ M2, M2 = M.drop k1 := ⟨_, rfl⟩
          obtain ⟨M3, hM3⟩ : ∃ M3, M3 = M1 ++ M2 := ⟨_, rfl⟩
          have hl1 : M1.length = k := by rw [hM1, List.length_take]; omega
          have hl2 : M2.length = M.length - k1 := by rw [hM2, List.length_drop]
          have hl3 : M3.length + 1 = M.length := by rw [hM3, List.length_append, hl1, hl2]; omega
          have hM3e : M3 = M.eraseIdx k := by rw [hM3, hM1, hM2, hk1e, List.eraseIdx_eq_take_drop_succ]
          have hnd3 : M3.Nodup := by rw [hM3e]; exact (List.eraseIdx_sublist M k).nodup HO.out.2.2.1
          have hmem3 : ∀ z, z ∈ M3 ↔ IsObj { C with sl := sl } z := fun z => by rw [hM3e, nodup_eraseIdx HO.out.2.2.1 ha, hobj z, HO.out.2.2.2.1 z]
          have HF := Lib.hid hfree
          have HK1 := Lib.hid (And.intro hnd3 (And.intro hmem3 (And.intro hl1 (And.intro hl2 (And.intro hM1 (And.intro hM2 (And.intro hM3 hk1e)))))))
          have e3 : (0 : Int) ≤ (k : Int) := by omega
          have e4 : (k : Int) < (M.length : Int) := by omega
          have hk1 : IntKind.i64.wrap ((k : Int) + 1) = (k1 : Int) := by rw [IntWalk.i64_in _ (by omega)]; omega
          have u0 : (k : Int) ≤ (c9 : Int) := by omega
          have u1 : (0 : Int) ≤ (k1 : Int) := by omega
          have u2 : (k1 : Int) ≤ (M.length : Int) := by omega
          have u3 : (M.length : Int) ≤ (c9 : Int) := by omega
          have hMl3 : M3.length ≤ ii + 1 := by omega
          clear ha hao hf hobj hEx hfree hnd3 hmem3 hl1 hl2 hM1 hM2 hM3 hk1e hM3e
          go_wp2_with (go_at_call 11; fail)
          refine HF.out.mono ?_
          rintro _ W7 ⟨rfl, hM7, hK7⟩
          have hog := HO.out.2.2.2.2.1 g rfl
          have hr7 : Own64 W7 W1.heap.size (some ⟨g, 0, none⟩) c9 M := ⟨HO.out.1.1, by
            rcases HO.out.1.2 with hn | ⟨g', cap, cur, hv, hB, hgg, rest⟩
            · exact .inl hn
            · have e : g = g' := by injection hv with h1; injection h1 with h1; injection h1
              exact .inr ⟨g', cap, cur, hv, hB, by rw [hK7.block g' (by rw [← e]; exact hg2) (by rw [← e]; exact hog)]; exact hgg, rest⟩⟩
          have hat := own64_at hr7
          have hsrc1 : I64At W7 (some ⟨g, 0, none⟩) c9 M1 := by rw [HK1.out.2.2.2.2.1]; exact hat.take
          have hsrc2 : I64At W7 (if c9 = k1 then some ⟨g, 0, none⟩ else some ⟨g, k1, none⟩) (c9 - k1) M2 := by
            by_cases e : c9 = k1
            · have h0 : M2 = [] := List.length_eq_zero_iff.1 (by have := HK1.out.2.2.2.1; omega)
              rw [h0]
              exact ⟨Nat.zero_le _, by unfold maxLen; omega, fun j x hx => by simp at hx⟩
            · rw [if_neg e, HK1.out.2.2.2.2.2.1]
              have := hat.drop (k := k1) (by omega)
              rw [Nat.zero_add] at this
              exact this
          have hrow7 := row_empty64 W7 W7.heap.size (Nat.le_refl _)
          have hW7s : W1.heap.size ≤ W7.heap.size := hM7.below.size
          have H7 := Lib.hid (And.intro hM7 (And.intro hsrc1 (And.intro hsrc2 (And.intro hrow7 (And.intro hW7s hM7.held.fresh)))))
          clear hM7 hK7 hr7 hat hsrc1 hsrc2 hrow7 hW7s ha1
          go_wp2_with (fail)
          go_region_law (first
            | (refine step_append_i64 (by rfl) (.tmp 84) (.tmp 87) (by rfl) W7.heap.size _ [] (by rfl) H7.out.2.2.2.1 (some ⟨g, 0, none⟩) c9 M1 (by rw [HK1.out.2.2.1]; rfl) (H7.out.2.1.below (w' := (W7.alloc (.cells #[] 2)).drew) (below_box W7 _).drew) (fun h => by cases h) (by have := HK1.out.2.2.1; simp; omega) (by show W7.heap.size ≤ (W7.alloc _).heap.size; simp) ?_
               intro A8 c8 w8 hrow8 hgr8
               rw [List.nil_append] at hrow8 ⊢
               have hb8 : Below W7.heap.size W7 w8 := ((below_box W7 _).drew).grown hgr8 (by show W7.heap.size ≤ (W7.alloc _).heap.size; simp) (fun k hk => (H7.out.2.2.2.1.lt k hk).1)
               have H8 := Lib.hid (And.intro hrow8 hb8)
               clear hrow8 hgr8 hb8)
            | (refine step_append_i64 (by rfl) (.tmp 88) (.tmp 92) (by rfl) W7.heap.size _ M1 (by rfl) H8.out.1 (if c9 = k1 then some ⟨g, 0, none⟩ else some ⟨g, k1, none⟩) (c9 - k1) M2 (by rw [HK1.out.2.2.2.1]; rfl) (H7.out.2.2.1.below H8.out.2) (fun h => by split at h <;> cases h) (by have := HK1.out.2.2.1; have := HK1.out.2.2.2.1; omega) H8.out.2.size ?_
               intro A10 c10 w10 hrow10 hgr10
               rw [← HK1.out.2.2.2.2.2.2.1] at hrow10 ⊢
               have hb10 : Below W7.heap.size W7 w10 := H8.out.2.grown hgr10 H8.out.2.size (fun k hk => (H8.out.1.lt k hk).1)
               have H10 := Lib.hid (And.intro hrow10 hb10)
               clear hrow10 hgr10 hb10))
          all_goals
            have hFT : Mine W1 own c b { C with sl := sl } N L' w10 ∧ Own64 w10 W1.heap.size A10 c10 M3 ∧ (∀ g, A10.map (·.block) = some g → own g = none) ∧ M3.Nodup ∧ (∀ z, z ∈ M3 ↔ IsObj { C with sl := sl } z) ∧ C.size = s ∧ C.order = o ∧ C.keep = kp := by
              refine ⟨H7.out.1.step H10.out.2, own64_low H10.out.1 H7.out.2.2.2.2.1, fun z hz => ?_, HK1.out.1, HK1.out.2.1, HO.out.2.2.2.2.2⟩
              refine Classical.byContradiction fun hn => ?_
              have h1 := H7.out.2.2.2.2.2 z hn
              have h2 := (H10.out.1.lt z (by cases A10 with | none => cases hz | some ad => injection hz with hz; rw [← hz]; rfl)).1
              omega
            have HFT := Lib.hid hFT
            clear hFT hMl
            have hMl := hMl3
            clear hMl3
            go_wp2_with (fail)
            all_goals
              have hlenM : (objC { C with sl := sl }).length = M3.length := by
                obtain ⟨q1, q2, q3, q4, q5, _⟩ := HFT.out
                exact ((List.perm_ext_iff_of_nodup ((asc_objC q1.held.ok).imp (fun h => Nat.ne_of_lt h)) q4).2 fun z => by rw [mem_objC, q5 z]).length_eq.trans (by simp)
              have hobj := HFT.out.1.objects
              rw [hlenM] at hobj
              have HOb := Lib.hid hobj
              clear hlenM hobj
              go_wp2_with (go_at_call 19; fail)
              refine HOb.out.mono ?_
              rintro _ W20 ⟨⟨A20, c20, rfl, -⟩, hM20, hb20⟩
              have hkp := kept_ok hM20 keep (by have := HFT.out.2.2.2.2.2.2.2; rw [this]; exact Int.le_of_eq HK.out.2.2.symm)
              have k3 := (HBX.out W20 hM20.below).2.2.2
              have HKp := Lib.hid hkp
              have H20 := Lib.hid hb20
              clear hM20 hb20 hkp HOb
              go_wp2_with (go_at_call 24; fail)
              refine HKp.out.mono ?_
              rintro _ W21 ⟨rfl, hM21, hb21⟩
              have H21 := Lib.hid (And.intro hM21 (below_step H20.out hb21 (Nat.le_refl _)))
              clear hM21 hb21 HKp k3
              go_wp2_with (fail)
              go_roundw
              case rel =>
                obtain ⟨q1, q2, q3, q4, q5, q6⟩ := HFT.out
                exact ⟨ii + 1, own, { C with sl := sl }, L', A10, c10, M3, by omega, by go_num, by first | rfl | simp, by first | (have := hMl; omega) | (have := hMl; rw [List.length_append, List.length_singleton]; omega), q4, q5, row_keep q2 (fun z _ hz => H21.out.2.block z hz), q3, H21.out.1, q6⟩
              case measure => simp [intOf]; omega
      · have hcond : ¬ (m3 = 2 ∧ (0 : Int) < (M.length : Int)) := fun h => hfree ⟨h.1, by omega⟩
        have hgen : ∀ (Q : Prop), (((m3 : Int) == 2) = false → Q) → (((m3 : Int) == 2) = true → ¬ (0 : Int) < (M.length : Int) → Q) → Q := fun Q h1 h2 => by
          by_cases e : m3 = 2
          · exact h2 (by rw [e]; rfl) (fun h => hcond ⟨e, h⟩)
          · exact h1 (by rw [beq_eq_false_iff_ne]; omega)
        clear hcond hfree
        cases ha : allocC C N L with
        | none =>
          have hno := HO.out.2.1.full ha
          have HN2 := Lib.hid hno
          have HA := Lib.hid ha
          clear ha hno
          refine hgen _ (fun t2 => ?_) (fun t2 t3 => ?_)
          all_goals
            go_wp2_with (go_at_call 12; fail)
            refine HN2.out.mono ?_
            rintro _ W6 ⟨rfl, hM6, hK6⟩
            have k2 := (HBX.out W6 hM6.below).2.2.1
            have hfl := full_ok hM6 HA.out
            rw [HO.out.2.2.2.2.2.2.1, ← HK.out.2.1] at hfl
            have HFl := Lib.hid hfl
            have H6 := Lib.hid hK6
            clear hM6 hK6 hfl
            go_wp2_with (go_at_call 22; fail)
            refine HFl.out.mono ?_
            rintro _ W7 ⟨rfl, hM7, hb7⟩
            have H7 := Lib.hid (And.intro hM7 hb7)
            clear hM7 hb7 k2
            go_wp2_with (fail)
            go_roundw
            case rel =>
              refine ⟨ii + 1, own, C, L, A9, c9, M, by omega, by go_num, rfl, by omega, HO.out.2.2.1, HO.out.2.2.2.1, ?_, HO.out.2.2.2.2.1, H7.out.1, HO.out.2.2.2.2.2⟩
              have h1 : Own64 W6 W1.heap.size A9 c9 M := row_own HO.out.1 HO.out.2.2.2.2.1 H6.out
              exact row_keep h1 (fun z _ hz => H7.out.2.block z hz)
            case measure => simp [intOf]; omega
        | some r =>
          obtain ⟨a, sl, L'⟩ := r
          have hobj := alloc_obj HO.out.2.1.held.ok ha
          have HA := Lib.hid (And.intro (HO.out.2.1.alloc ha) hobj)
          clear ha hobj
          refine hgen _ (fun t2 => ?_) (fun t2 t3 => ?_)
          all_goals
            go_wp2_with (go_at_call 12; fail)
            refine HA.out.1.mono ?_
            rintro _ W6 ⟨rfl, own', hM6, hK6⟩
            obtain ⟨k0, k1, k2, k3⟩ := HBX.out W6 hM6.below
            have h1 : Own64 W6 W1.heap.size A9 c9 M := row_own HO.out.1 HO.out.2.2.2.2.1 hK6
            have haC : IsObj { C with sl := sl } a := (HA.out.2.1 a).2 (.inl rfl)
            have hnoM : ¬ a ∈ M := fun h => HA.out.2.2.1 ((HO.out.2.2.2.1 a).1 h)
            have hfit := fits_ok hM6 a haC A9 c9 M (own64_at h1) (fun l hl => ⟨(HA.out.2.1 l).2 (.inr ((HO.out.2.2.2.1 l).1 hl)), fun e => hnoM (e ▸ hl)⟩) P keep
            have es : (({ C with sl := sl } : Ca).size : Int) = size := by have := HO.out.2.2.2.2.2.1; have := HK.out.1; show (C.size : Int) = size; omega
            have eo : (({ C with sl := sl } : Ca).order : Int) = order := by have := HO.out.2.2.2.2.2.2.1; have := HK.out.2.1; show (C.order : Int) = order; omega
            rw [es, eo] at hfit
            have HFi := Lib.hid hfit
            have hon6 : ∀ g, A9.map (·.block) = some g → own' g = none := fun g hg => by
              have hgl : g < wr.heap.size := (HO.out.1.lt g (by cases A9 with | none => cases hg | some ad => injection hg with hg; rw [← hg]; rfl)).2
              rw [hK6.same g hgl]; exact HO.out.2.2.2.2.1 g hg
            have H6 := Lib.hid (And.intro h1 (And.intro hnoM hon6))
            clear hM6 hK6 h1 haC hnoM hfit es eo hon6
            go_wp2_with (go_at_call 23; fail)
            refine HFi.out.mono ?_
            rintro _ W7 ⟨rfl, hM7, hb7⟩
            have hr7 : Own64 W7 W1.heap.size A9 c9 M := row_keep H6.out.1 (fun z _ hz => hb7.block z hz)
            have hW7s := hM7.below.size
            have H7 := Lib.hid (And.intro hM7 hr7)
            clear hM7 hb7 hr7 k0 k1 k2 k3
            go_wp2_with (at_builtin; refine wpList_append_own_at _ rfl (.tmp 117) (.tmp 119) 48 rfl W1.heap.size 2 i0 z0 1 8 Try.underlying48 hi0 hz0 hz1 hz2 hz3 (by omega) (.slice A9 M.length c9) M.length (n64 M) rfl (H7.out.2.alloc _) ⟨W7.heap.size, 0, none⟩ 1 1 [.int .i64 (a : Int)] rfl rfl (cell_one_new _ _ _) (by simp [Value.oneCell']) (by unfold maxLen; omega) (by omega) (by simp; omega) ?_; intro v8 w8 hown8 hgr8 _ hat8; obtain ⟨g8, cap8, rfl⟩ := ownsRow_succ hown8; have H8 := Lib.hid (And.intro hown8 (And.intro hgr8 hat8)); clear hown8 hgr8 hat8)
            have hFT : Mine W1 own' c b { C with sl := sl } N L' w8 ∧ Own64 w8 W1.heap.size (some ⟨g8, 0, none⟩) cap8 (M ++ [a]) ∧ (∀ g, (some (⟨g8, 0, none⟩ : Addr)).map (·.block) = some g → own' g = none) ∧ (M ++ [a]).Nodup ∧ (∀ z, z ∈ M ++ [a] ↔ IsObj { C with sl := sl } z) ∧ C.size = s ∧ C.order = o ∧ C.keep = kp := by
              obtain ⟨q1, q2, q3⟩ := H8.out
              have hM7 := H7.out.1
              have hsz := q2.size
              simp at hsz
              have hal : (W7.alloc (.cells #[.int .i64 (a : Int)] 2)).heap.size = W7.heap.size + 1 := by simp
              have hcell : ∀ z, z < W7.heap.size → (Value.slice A9 M.length c9).ownBlock ≠ some z → w8.heap[z]? = W7.heap[z]? := fun z h1 h2 => (q2.block z (by rw [hal]; omega) (fun e => h2 e.symm)).trans (alloc_old _ _ _ h1)
              have hob : ∀ z, own' z ≠ none → (Value.slice A9 M.length c9).ownBlock ≠ some z := fun z hz e => by
                cases A9 with
                | none => cases e
                | some ad => exact hz (H6.out.2.2 z (by injection e with e; rw [← e]; rfl))
              have hHe : Held w8 own' c b { C with sl := sl } N L' := held_same hM7.held (by omega) (fun z h1 h2 => hcell z h2 (hob z h1))
              have hB7 := hM7.below
              have hBe : Below W1.heap.size W1 w8 := ⟨q2.os.trans hB7.os, q2.tape.trans hB7.tape, q2.output.trans hB7.output, by have := hB7.size; omega, fun z hz => (hcell z (by have := hB7.size; omega) (fun e => by have := (H7.out.2.lt z e).1; omega)).trans (hB7.block z hz)⟩
              have hg8 : own' g8 = none := by
                rcases q3 with e | e
                · refine H6.out.2.2 g8 ?_
                  cases A9 with
                  | none => cases e
                  | some ad => injection e with e; rw [Option.map_some]; exact congrArg some e.symm
                · refine Classical.byContradiction fun hn => ?_
                  have h1 := hM7.held.fresh g8 hn
                  injection e with e
                  rw [hal] at e
                  have e : g8 = W7.heap.size + 1 := e
                  omega
              refine ⟨⟨hHe, hBe, hM7.out⟩, ?_, fun g hg => ?_, ?_, fun z => ?_, HO.out.2.2.2.2.2⟩
              · show w8.ownsRow W1.heap.size 2 1 (.slice (some ⟨g8, 0, none⟩) (M ++ [a]).length cap8) (M ++ [a]).length (n64 (M ++ [a]))
                rw [show (M ++ [a]).length = M.length + 1 by simp, show n64 (M ++ [a]) = n64 M ++ [.int .i64 (a : Int)] by simp [n64]]
                exact q1
              · have e : g8 = g := by injection hg
                rw [← e]; exact hg8
              · rw [List.nodup_append]
                exact ⟨HO.out.2.2.1, by simp, fun x hx y hy e => H6.out.2.1 (by have : y = a := by simpa using hy
                                                                                rw [← this, ← e]; exact hx)⟩
              · rw [List.mem_append, HA.out.2.1 z, HO.out.2.2.2.1 z, List.mem_singleton]
                exact ⟨fun h => h.symm, fun h => h.symm⟩
            have HFT := Lib.hid hFT
            have hMl2 : M.length ≤ ii := hMl
            clear hFT
            go_wp2_with (fail)
            have hlenM : (objC { C with sl := sl }).length = M.length + 1 := by
              obtain ⟨q1, q2, q3, q4, q5, _⟩ := HFT.out
              exact ((List.perm_ext_iff_of_nodup ((asc_objC q1.held.ok).imp (fun h => Nat.ne_of_lt h)) q4).2 fun z => by rw [mem_objC, q5 z]).length_eq.trans (by simp)
            have hobj := HFT.out.1.objects
            rw [hlenM] at hobj
            have HOb := Lib.hid hobj
            clear hlenM hobj
            go_wp2_with (go_at_call 19; fail)
            refine HOb.out.mono ?_
            rintro _ W20 ⟨⟨A20, c20, rfl, -⟩, hM20, hb20⟩
            have hkp := kept_ok hM20 keep (by have := HFT.out.2.2.2.2.2.2.2; rw [this]; exact Int.le_of_eq HK.out.2.2.symm)
            have k3 := (HBX.out W20 hM20.below).2.2.2
            have HKp := Lib.hid hkp
            have H20 := Lib.hid hb20
            clear hM20 hb20 hkp HOb
            go_wp2_with (go_at_call 24; fail)
            refine HKp.out.mono ?_
            rintro _ W21 ⟨rfl, hM21, hb21⟩
            have H21 := Lib.hid (And.intro hM21 (below_step H20.out hb21 (Nat.le_refl _)))
            clear hM21 hb21 HKp k3
            go_wp2_with (fail)
            go_roundw
            case rel =>
              obtain ⟨q1, q2, q3, q4, q5, q6⟩ := HFT.out
              exact ⟨ii + 1, own', { C with sl := sl }, L', (some ⟨g8, 0, none⟩), cap8, (M ++ [a]), by omega, by go_num, by first | rfl | simp, by first | (have := hMl; omega) | (have := hMl; rw [List.length_append, List.length_singleton]; omega), q4, q5, row_keep q2 (fun z _ hz => H21.out.2.block z hz), q3, H21.out.1, q6⟩
            case measure => simp [intOf]; omega
    · obtain rfl : ii = T.length := by omega
      have e1 : ¬ ((T.length : Nat) : Int) < (T.length : Int) := by omega
      have HS := Lib.hid (And.intro (shown_ok wr) hM.below)
      clear hM hnd hmem hown hon hCs
      go_wp2_with (go_at_call 17; refine HS.out.1.mono ?_; rintro _ W9 ⟨rfl, hb9⟩; have H9 := Lib.hid (below_step (HX.out.1.trans (HS.out.2.mono (by have := HX.out.2.1; omega))) hb9 (Nat.le_refl _)); clear hb9)
      go_ret
      exact ⟨rfl, H9.out⟩
end Sl
end Go.Proofs.Ytlknhbcambdccaa
