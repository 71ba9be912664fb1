/- The program: Tune. -/
import Derived.Test.YtnkkhbmbbkmfhaaJA8
import Derived.Test.YtnkkhbmbbkmfhaaJShSo
import Derived.Test.YtnkkhbmbbkmfhaaJR9
import Derived.Sort.OwnSortedInts
namespace Go.Proofs.Ytnkkhbmbbkmfhaa
open Go.RowKit Go.Sort Go.Lib
namespace Py

/-! The best age, both ways. -/
theorem tuneP_congr {F F' : Int → Int} : ∀ {A : List Int} {st : Int × Int}, (∀ a, a ∈ A → F a = F' a) → tuneP F A st = tuneP F' A st
  | [], _, _ => rfl
  | a :: A, st, h => by
    show tuneP F A (if st.2 < 0 ∨ F a < st.2 then (a, F a) else st) = tuneP F' A (if st.2 < 0 ∨ F' a < st.2 then (a, F' a) else st)
    rw [h a (List.mem_cons_self ..)]
    exact tuneP_congr fun b hb => h b (List.mem_cons_of_mem _ hb)
theorem tune_same {F : Int → Int} {G : List PU} {S : List Int} (hF : ∀ a, 0 ≤ a → 0 ≤ F a) (hS : S.Perm (0 :: lens G)) (hs : S.Pairwise (· ≤ ·)) (hn : ∀ a, a ∈ lens G → 0 ≤ a) : tuneP F S (0, -1) = tuneR F (lens G) (0, F 0) := by
  have hm : ∀ a, a ∈ S → 0 ≤ a := fun a ha => by
    rcases List.mem_cons.1 (hS.mem_iff.1 ha) with rfl | h
    · exact Int.le_refl _
    · exact hn a h
  have hne : S ≠ [] := fun e => by
    have := hS.length_eq
    rw [e] at this; simp at this
  have h1 := tuneP_all (F := fun a => F (max a 0)) (fun a => hF _ (by omega)) hs hne
  have hcg : ∀ a, a ∈ S → F (max a 0) = F a := fun a ha => by rw [show max a 0 = a by have := hm a ha; omega]
  rw [tuneP_congr (F' := F) hcg] at h1
  have h2 : IsTune F S (tuneP F S (0, -1)) := ⟨h1.mem, by rw [h1.val]; exact hcg _ h1.mem, fun b hb => by have := h1.best b hb; rw [hcg b hb] at this; exact this⟩
  exact h2.unique (tuneR_all F G) fun a => hS.mem_iff
theorem ce_I (L : List Int) : ce enI L = L.map (Value.int .i64) := by
  induction L with
  | nil => rfl
  | cons a L ih => show enI a ++ ce enI L = _; rw [ih]; rfl
theorem sort64_ok (w : World) (B T c : Nat) (A : Option Addr) (L : List Int) (hr : OwnE enI 1 w B T A c L) (hL : L.length < 4611686018427387904) :
    Calls Try.prog 47 #[.slice A L.length c] w fun e w' => e = .returned (.tuple #[]) ∧ ∃ L' : List Int, L'.Perm L ∧ L'.Pairwise (· ≤ ·) ∧ OwnE enI 1 w' B T A c L' ∧ (B ≤ w.heap.size → Below B w w') := by
  rcases hr.2 with ⟨hn, h0⟩ | ⟨b, cap, cur, hv, hB, hg, hnc, hcm, hsz, htk⟩
  · injection hn with h1 h2 h3
    subst h1
    obtain rfl : L = [] := List.length_eq_zero_iff.1 h0
    refine Calls.mono (AnyM.slices_Sort_int_none Try.sort64 none c w) ?_
    rintro e w' ⟨he, rfl⟩
    exact ⟨he, [], List.Perm.refl _, List.Pairwise.nil, hr, fun _ => Below.refl _ _⟩
  · injection hv with h1 h2 h3
    subst h1
    subst h3
    have hgl := lt_of_heap hg
    rw [ce_I, Nat.mul_one] at htk
    refine Calls.mono (AnyM.slices_Sort_int Try.sort64 b 0 c L w (holds_of_blockI hg htk) hgl hL) ?_
    rintro e w' ⟨he, n, os, rfl⟩
    have hl : (L.mergeSort fun x y => decide (x ≤ y)).length = L.length := List.length_mergeSort L
    refine ⟨he, L.mergeSort fun x y => decide (x ≤ y), List.mergeSort_perm _ _, ?_, ?_, fun hBw => ?_⟩
    · have := List.pairwise_mergeSort (le := fun x y : Int => decide (x ≤ y)) (fun a b c h1 h2 => by simp at *; omega) (fun a b => by simp; omega) L
      exact this.imp fun {a b} h => by simpa using h
    · unfold OwnE
      rw [ce_I, hl]
      exact ownsRow_sortedI hl hB hg hnc hcm hsz
    · exact below_grown (v := .slice (some ⟨b, 0, none⟩) L.length c) (grownBy_sortedI _) hBw fun g e => by cases e; exact hB

set_option maxRecDepth 100000 in
set_option maxHeartbeats 4000000 in
theorem Tune_ok (A : Option Addr) (c : Nat) (L : List PU) (h w : Int) (W : World) (hU : UAt W A c L) :
    Calls Try.prog 18 #[.slice A L.length c, cbx h w] W (TwoOut W (askV L h w) (tuneV L h w)) := by
  have hb := below_box W (.cells #[.int .i64 h, .int .i64 w] 24)
  have hnb : (W.alloc (.cells #[.int .i64 h, .int .i64 w] 24)).heap[W.heap.size]? = some (.cells #[.int .i64 h, .int .i64 w] 24 (0, 0)) := by rw [heapAlloc, if_pos rfl]
  by_cases hask : askV L h w = 0
  · obtain ⟨hL, hc⟩ := ask_ok.1 hask
    have hlen := hL.len
    have HA := Lib.hid (both_good A c L h w _ (hU.below hb (Nat.le_refl _)) hask)
    have HC := Lib.hid (And.intro hL (And.intro hc (And.intro hask hU)))
    have HX := Lib.hid (And.intro hb hnb)
    clear hL hc hask hU hb hnb
    go_enter Try.func18, Try.ntmps18
    go_upto_region 1 with (fail)
    generalize W.alloc (.cells #[.int .i64 h, .int .i64 w] 24) = V at *
    obtain ⟨b, hbe⟩ : ∃ b, b = W.heap.size := ⟨_, rfl⟩
    rw [← hbe] at HX ⊢
    have HBE := Lib.hid hbe
    clear hbe
    have x0 : V.cell? ⟨b, 0, none⟩ = some (.int .i64 h) := by rw [cell_of_row _ _ _ _ _ _ HX.out.2]; rfl
    have x1 : V.cell? ⟨b, 1, none⟩ = some (.int .i64 w) := by rw [cell_of_row _ _ _ _ _ _ HX.out.2]; rfl
    go_upto_region 2 with (go_at_call 35; refine HA.out.mono ?_; rintro e v1 ⟨t, rfl, htr, hb1⟩)
    have hz : v1.heap[b]? = some (.cells #[.int .i64 h, .int .i64 w] 24 (0, 0)) := by rw [hb1.block b (lt_of_heap HX.out.2)]; exact HX.out.2
    have hW1 : Below b W v1 := HX.out.1.trans (hb1.mono (by rw [HBE.out]; have := HX.out.1.size; exact this))
    obtain ⟨B0, d0, mb, n0, D0, e1, e2, _⟩ := htr.ex
    have t1 : v1.cell? ⟨t, 1, none⟩ = some (.slice B0 (gapsV L).length d0) := by rw [cell_of_row _ _ _ _ _ _ e1]; rfl
    have hcm := e2.2.1
    have hcl := e2.1
    have hgl := gapsV_len L
    unfold maxLen at hcm
    have hbs := lt_of_heap hz
    have HE := Lib.hid (And.intro (uat_e.2 e2) (And.intro hz (And.intro hW1 htr)))
    clear hb1 htr hz hW1 e1 e2 x0 x1
    have hsv : ∀ i, i < (gapsV L).length → OkG (use (gapsV L) i) := fun i hi => use_okG HC.out.1 hi
    have hlx : ∀ i, i < (gapsV L).length → 0 :: lens ((gapsV L).take (i + 1)) = (0 :: lens ((gapsV L).take i)) ++ [(use (gapsV L) i).t - (use (gapsV L) i).f] := fun i hi => by rw [lens_next hi]; rfl
    have hln : ∀ a, a ∈ lens (gapsV L) → 0 ≤ a ∧ a ≤ 1000000000 := fun a ha => by
      obtain ⟨g, hg, rfl⟩ := List.mem_map.1 ha
      have hok := ok_gaps HC.out.1 hg
      have := hok.ft; have := hok.f0; have := hok.t1
      omega
    have hlll : ∀ k, (lens ((gapsV L).take k)).length ≤ 200 := fun k => by unfold lens; rw [List.length_map, List.length_take]; omega
    have hnn := fun (age : Int) (a0 : 0 ≤ age) => aged_nn HC.out.1 HC.out.2.1 (age := age) a0
    have hlast : (gapsV L).take (gapsV L).length = gapsV L := List.take_length
    have hco := fun (age : Int) (ab : Nat) (U : World) (a0 : 0 ≤ age) (a1 : age ≤ 1000000000) (hU : Below v1.heap.size v1 U) (hca : U.cell? ⟨ab, 0, none⟩ = some (.int .i64 age)) => cost_ok t ab A c L h w age HC.out.1 HC.out.2.1 a0 a1 U (HE.out.2.2.2.below hU) hca
    have htv : tuneV L h w = tuneR (agedV L h w) (lens (gapsV L)) (0, agedV L h w 0) := rfl
    have HTV := Lib.hid htv
    clear htv
    generalize agedV L h w = F at *
    have HS := Lib.hid (And.intro hsv (And.intro hlx (And.intro hln (And.intro hlll (And.intro hnn (And.intro hlast hco))))))
    clear hsv hlx hln hlll hnn hlast hco
    generalize gapsV L = G at *
    have H0 := Lib.hid (owne_one EI v1 2 0 #[.int .i64 0] rfl)
    have hbx := below_box v1 (.cells #[.int .i64 0] 2)
    have HBX := Lib.hid hbx
    have t1' := cell_keep2 hbx t1
    clear hbx
    go_upto_region 5 with (fail)
    have hbx2 : Below v1.heap.size v1 (v1.alloc (.cells #[.int .i64 0] 2)) := below_box _ _
    have HB4 := Lib.hid hbx2
    have hsz4 := hbx2.size
    clear hbx2
    generalize v1.alloc (.cells #[.int .i64 0] 2) = V4 at *
    obtain ⟨ba, hba⟩ : ∃ ba, ba = v1.heap.size := ⟨_, rfl⟩
    rw [← hba] at H0 hsz4 ⊢
    have HBA := Lib.hid hba
    clear hba
    go_wp2_with (fail)
    go_loopw [8, 29] (fun x i wr => ∃ (k : Nat) (B : Option Addr) (d : Nat) (M : List Int), k ≤ G.length ∧ i = .int .i64 k ∧ x = .slice B M.length d ∧ M = 0 :: lens (G.take k) ∧ OwnE enI 1 wr ba 2 B d M ∧ Below ba V4 wr) (fun _ i _ => G.length - (intOf i).toNat)
    case atStart => exact ⟨0, some ⟨ba, 0, none⟩, 1, [0], Nat.zero_le _, rfl, rfl, rfl, H0.out, Below.refl _ _⟩
    case round =>
      obtain ⟨k, B, d, M, hk, rfl, rfl, hM, hrow, hbw⟩ := hrel
      have hbv : Below v1.heap.size v1 wr := HB4.out.trans (by rw [← HBA.out]; exact hbw)
      have hMl : M.length ≤ 201 := by rw [hM]; have := HS.out.2.2.2.1 k; simp only [List.length_cons]; omega
      by_cases hlt : k < G.length
      · have hX := HE.out.1.below hbv (Nat.le_refl _)
        have hok := HS.out.1 k hlt
        have hnx := HS.out.2.1 k hlt
        obtain ⟨g, o, rfl, hg, c0, c1, c2⟩ := hX.at hlt
        have gf0 := hok.f0; have gft := hok.ft; have gt1 := hok.t1
        generalize use G k = u at *
        obtain ⟨gp, gf, gt⟩ := u
        dsimp only at c0 c1 c2 hnx gf0 gft gt1
        obtain ⟨lf, hlf⟩ : ∃ lf, lf = gt - gf := ⟨_, rfl⟩
        rw [← hlf] at hnx
        have hlf2 : gt - gf = lf := hlf.symm
        have hsz := hbw.size
        have HR := Lib.hid (And.intro hM (And.intro hrow (And.intro hbw hnx)))
        clear hX hok hnx hlf hbw hM hrow hbv
        go_upto_region 8 with (fail)
        obtain ⟨V5, hV5⟩ : ∃ V5, V5 = wr.alloc (.cells #[.int .i64 gp, .int .i64 gf, .int .i64 gt] 66) := ⟨_, rfl⟩
        rw [← hV5]
        obtain ⟨ub, hub⟩ : ∃ ub, ub = wr.heap.size := ⟨_, rfl⟩
        rw [← hub]
        have hbx : V5.heap[ub]? = some (.cells #[.int .i64 gp, .int .i64 gf, .int .i64 gt] 66 (0, 0)) := by rw [hV5, hub, heapAlloc, if_pos rfl]
        have hb5 : Below wr.heap.size wr V5 := by rw [hV5]; exact below_box _ _
        obtain ⟨u0, u1, u2⟩ := three_at hbx
        have hsz5 : ba ≤ V5.heap.size := Nat.le_trans (Nat.le_trans hsz4 hsz) hb5.size
        have H5 := Lib.hid (And.intro (row_below HR.out.2.1 hb5) (HR.out.2.2.1.trans (hb5.mono (Nat.le_trans hsz4 hsz))))
        clear hV5 hub hbx hb5 c0 c1 c2
        go_wp2_with (at_builtin; refine wpList_e EI Try.underlying88 i64_info (by decide) ?_ (.tmp 33) (.tmp 39) ?_ ba B d M ?_ (H5.out.1.alloc _) (some ⟨V5.heap.size, 0, none⟩) 1 [lf] ?_ (oneI _ _ lf) (fun h => by cases h) ?_ ?_ ?_; (exact rfl); (exact rfl); (exact rfl); (exact rfl); (simp; omega); (simp; omega); intro A8 c8 w8 h8 b8 _ _; obtain ⟨U, hU⟩ : ∃ U, U = M ++ [lf] := ⟨_, rfl⟩; rw [← hU] at h8 ⊢; have H8 := Lib.hid (And.intro h8 (And.intro b8 hU)); clear h8 b8 hU)
        go_roundw
        case rel => exact ⟨k + 1, A8, c8, U, by omega, by go_num, rfl, by rw [HR.out.2.2.2, H8.out.2.2, HR.out.1], H8.out.1, (H5.out.2.alloc hsz5 _).trans H8.out.2.1⟩
        case measure => simp [intOf]; omega
      · obtain rfl : k = G.length := by omega
        have hso := sort64_ok wr ba 2 d B M hrow (by omega)
        have hperm : M = 0 :: lens G := by rw [hM, HS.out.2.2.2.2.2.1]
        have HR := Lib.hid (And.intro hperm (And.intro hbv (And.intro hso (Nat.le_trans hsz4 hbw.size))))
        clear hperm hbv hso hM hrow hbw
        go_upto_region 11 with (go_at_call 47; refine HR.out.2.2.1.mono ?_; rintro e v5 ⟨rfl, S, hS1, hS2, hS3, hS4⟩)
        have hl := hS1.length_eq
        rw [← hl]
        have hb5 := hS4 HR.out.2.2.2
        have hbv5 : Below v1.heap.size v1 v5 := HR.out.2.1.trans (by rw [← HBA.out]; exact hb5)
        have hea := (OwnE.at EI hS3).1
        have hcap := hea.2.1
        have hcl := hea.1
        unfold maxLen at hcap
        have hsm : ∀ a, a ∈ S → 0 ≤ a ∧ a ≤ 1000000000 := fun a ha => by
          have := hS1.mem_iff.1 ha
          rw [HR.out.1] at this
          rcases List.mem_cons.1 this with rfl | h9
          · omega
          · exact HS.out.2.2.1 a h9
        have hfin : tuneP F S (0, -1) = tuneR F (lens G) (0, F 0) := tune_same (fun a a0 => (HS.out.2.2.2.2.1 a a0).1) (by rw [← HR.out.1]; exact hS1) hS2 fun a ha => (HS.out.2.2.1 a ha).1
        have hz5 : v5.heap[b]? = some (.cells #[.int .i64 h, .int .i64 w] 24 (0, 0)) := by rw [hbv5.block b hbs]; exact HE.out.2.1
        have z0 : v5.cell? ⟨b, 0, none⟩ = some (.int .i64 h) := by rw [cell_of_row _ _ _ _ _ _ hz5]; rfl
        have z1 : v5.cell? ⟨b, 1, none⟩ = some (.int .i64 w) := by rw [cell_of_row _ _ _ _ _ _ hz5]; rfl
        have HF := Lib.hid (And.intro (iat_I.2 hea) (And.intro hbv5 (And.intro hsm (And.intro hfin (And.intro z0 z1)))))
        have hSl : S.length ≤ 201 := by omega
        clear hS1 hS2 hS3 hS4 hl hb5 hbv5 hea hsm hfin hz5 z0 z1 hMl
        go_wp2_with (fail)
        go_loopw [4, 5, 46] (fun x y i wr => ∃ (k : Nat), k ≤ S.length ∧ i = .int .i64 k ∧ x = .int .i64 (tuneP F (S.take k) (0, -1)).1 ∧ y = .int .i64 (tuneP F (S.take k) (0, -1)).2 ∧ Below v5.heap.size v5 wr) (fun _ _ i _ => S.length - (intOf i).toNat)
        case atStart => exact ⟨0, Nat.zero_le _, rfl, rfl, rfl, Below.refl _ _⟩
        case round =>
          obtain ⟨k, hk, rfl, rfl, rfl, hbw⟩ := hrel
          by_cases hlt : k < S.length
          · have hX := HF.out.1.below hbw (Nat.le_refl _)
            obtain ⟨g, o, rfl, hg, c0⟩ := hX.at hlt
            have hget : S[k]? = some (addr S k) := by unfold addr; rw [List.getD_eq_getElem?_getD, List.getElem?_eq_getElem hlt]; rfl
            have hsa := HF.out.2.2.1 _ (List.mem_of_getElem? hget)
            have hst := tuneP_snoc F (S.take k) (addr S k) (0, -1)
            rw [← take_next hget] at hst
            have hfb := HS.out.2.2.2.2.1 (addr S k) hsa.1
            have hbv : Below v1.heap.size v1 wr := HF.out.2.1.trans (hbw.mono HF.out.2.1.size)
            have z0 := cell_keep2 hbw HF.out.2.2.2.2.1
            have z1 := cell_keep2 hbw HF.out.2.2.2.2.2
            generalize addr S k = a at *
            have hco := fun (ab : Nat) (U : World) (hU : Below wr.heap.size wr U) (hca : U.cell? ⟨ab, 0, none⟩ = some (.int .i64 a)) => HS.out.2.2.2.2.2.2 a ab U hsa.1 hsa.2 (hbv.trans (hU.mono hbv.size)) hca
            generalize hfa : F a = fa at *
            generalize tuneP F (S.take k) (0, -1) = st at *
            obtain ⟨sa, sc⟩ := st
            dsimp only at hst ⊢
            have HQ2 := Lib.hid (And.intro hst (And.intro hco hbw))
            obtain ⟨fa0, fa1⟩ := hfb
            clear hX hget hsa hst hbv hco hbw hfa
            go_upto_region 15 with (fail)
            go_cut [13] from 50 to 54 (fun v wx => v = .int .i64 fa ∧ Below wr.heap.size wr wx)
            case first =>
              go_region_with (first
                | (go_at_call 37; refine (aged_ok _ _).mono ?_; rintro e u1 ⟨ab, rfl, hca, _, hbq⟩; have hbu : Below wr.heap.size wr u1 := ⟨hbq.os, hbq.tape, hbq.output, hbq.size, hbq.block⟩; have z0' := cell_keep2 hbu z0; have z1' := cell_keep2 hbu z1)
                | (go_at_call 36; refine (HQ2.out.2.1 ab u1 hbu hca).mono ?_; rintro e u2 ⟨rfl, hb2⟩))
              all_goals
                go_wp2_with (fail)
                go_meet
                exact ⟨rfl, hbu.trans (hb2.mono hbu.size)⟩
            case rest =>
              obtain ⟨rfl, hbc⟩ := hcut
              have hbx := HQ2.out.2.2.trans (hbc.mono HQ2.out.2.2.size)
              have HB6 := Lib.hid hbx
              clear hbx hbc z0 z1 c0
              by_cases h0 : sc < 0
              · have HN := Lib.hid (HQ2.out.1.trans (if_pos (.inl h0)))
                go_wp2_with (fail)
                go_roundw
                case rel => exact ⟨k + 1, by omega, by go_num, by rw [HN.out], by rw [HN.out], HB6.out⟩
                case measure => simp [intOf]; omega
              · by_cases h1 : fa < sc
                · have HN := Lib.hid (HQ2.out.1.trans (if_pos (.inr h1)))
                  go_wp2_with (fail)
                  go_roundw
                  case rel => exact ⟨k + 1, by omega, by go_num, by rw [HN.out], by rw [HN.out], HB6.out⟩
                  case measure => simp [intOf]; omega
                · have HN := Lib.hid (HQ2.out.1.trans (if_neg (fun e => by rcases e with e | e <;> omega)))
                  go_wp2_with (fail)
                  go_roundw
                  case rel => exact ⟨k + 1, by omega, by go_num, by rw [HN.out], by rw [HN.out], HB6.out⟩
                  case measure => simp [intOf]; omega
          · obtain rfl : k = S.length := by omega
            rw [List.take_length, HF.out.2.2.2.1, ← HTV.out]
            have hbW : Below W.heap.size W wr := by
              have e1 : Below b W v5 := HE.out.2.2.1.trans (HF.out.2.1.mono (Nat.le_of_lt hbs))
              rw [← HBE.out]
              exact e1.trans (hbw.mono (by have := HF.out.2.1.size; omega))
            have HR2 := Lib.hid hbW
            clear hbw hbW
            go_wp2
            go_ret3
            exact ⟨fun e => absurd HC.out.2.2.1 e, fun _ => rfl, HR2.out⟩
  · have HA := Lib.hid (both_bad A c L h w _ (hU.below hb (Nat.le_refl _)) hask)
    have hne : (askV L h w != 0) = true := by simp [hask]
    have HX := Lib.hid (And.intro hb hask)
    clear hb hnb hask hU
    unfold TwoOut
    generalize askV L h w = cv at *
    go_enter Try.func18, Try.ntmps18
    go_wp2_with (go_at_call 35; refine HA.out.mono ?_; rintro e w1 ⟨p, rfl, hb1⟩; have HB1 := Lib.hid hb1; clear hb1)
    go_ret3
    exact ⟨fun _ => rfl, fun e => absurd e HX.out.2, HX.out.1.trans (HB1.out.mono HX.out.1.size)⟩
end Py
end Go.Proofs.Ytnkkhbmbbkmfhaa
